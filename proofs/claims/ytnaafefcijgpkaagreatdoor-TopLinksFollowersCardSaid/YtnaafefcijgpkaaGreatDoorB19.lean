/- Part 19 of the walks of the golf union's program: UF21. -/
import Derived.Test.YtnaafefcijgpkaaGreatDoorB17
import Derived.Test.YtnaafefcijgpkaaGreatDoorB18
import Derived.Test.YtnaafefcijgpkaaGreatDoorB04
import Derived.Shelf.Lays
import Derived.Shelf.Bits.Mul64
set_option linter.unusedVariables false
set_option linter.unusedSimpArgs false
set_option linter.unusedSectionVars false
set_option linter.constructorNameAsVariable false
/- slices.Repeat of one entry (Repeat's walk: printed by gen_rep.py for another seat; bits.Mul as the kit's lay-shelf prints it). -/
namespace Go.Proofs.YtnaafefcijgpkaaGreatDoor
def Tryz.lays212_ren : Go.Shelf.Ren := ⟨fun | 212 => 72 | 263 => 102 | 264 => 103 | n => n, fun | 46 => 142 | 51 => 174 | 146 => 175 | 53 => 177 | 148 => 178 | n => n, fun | n => n⟩
theorem Tryz.lays212 : Go.Proofs.Lays.n212 Tryz.prog Tryz.lays212_ren := {
  mixed := by kernel_rfl
  f212 := Tryz.func72.trans (congrArg some (by kernel_rfl))
  f263 := Tryz.func102.trans (congrArg some (by kernel_rfl))
  f264 := Tryz.func103.trans (congrArg some (by kernel_rfl))
  t46 := Tryz.underlying142
  a46 := Tryz.isAgg142
  z46 := Tryz.sizeOf142
  v46 := Tryz.zeroValue142
  t51 := Tryz.underlying174
  a51 := Tryz.isAgg174
  z51 := Tryz.sizeOf174
  v51 := Tryz.zeroValue174
  t53 := Tryz.underlying177
  a53 := Tryz.isAgg177
  z53 := Tryz.sizeOf177
  v53 := Tryz.zeroValue177
  t146 := Tryz.underlying175
  a146 := Tryz.isAgg175
  z146 := Tryz.sizeOf175
  v146 := Tryz.zeroValue175
  t148 := Tryz.underlying178
  a148 := Tryz.isAgg178
  z148 := Tryz.sizeOf178
  v148 := Tryz.zeroValue178 }
open Go.RowKit Go.Lib in
/-- math/bits.Mul: "Mul returns the full-width product of x and y": on a machine of 64 bits: Mul64's. (LAID: no walk: one application.) -/
theorem Tryz.bits_Mul (x y : Nat) (hx : x < 18446744073709551616) (hy : y < 18446744073709551616) (w : World) :
    Calls Tryz.prog 72 #[.int .u64 x, .int .u64 y] w fun e w' => e = .returned (.tuple #[.int .u64 ((x * y / 18446744073709551616 : Nat) : Int), .int .u64 ((x * y % 18446744073709551616 : Nat) : Int)]) ∧ w' = w := Any.bits_Mul Tryz.lays212 x y hx hy w
end Go.Proofs.YtnaafefcijgpkaaGreatDoor
namespace Go.Proofs.YtnaafefcijgpkaaGreatDoor
open Go.RowKit Go.Mem Go.Sheet Go.Adj Go.Shelf
theorem mul1 (n : Nat) (h : n < 18446744073709551616) (w : World) : Calls Tryz.prog 72 #[.int .u64 1, .int .u64 n] w fun e w' => e = .returned (.tuple #[.int .u64 0, .int .u64 n]) ∧ w = w' := by
  refine (Tryz.bits_Mul 1 n (by decide) h w).mono ?_
  rintro e w' ⟨rfl, rfl⟩
  refine ⟨?_, rfl⟩
  rw [Nat.one_mul, Nat.mod_eq_of_lt h, Nat.div_eq_of_lt h]; rfl
theorem eltEn : Elt Tryz.prog 45 65 (.agg #[.int .i64 0, .string ⟨#[]⟩]) 2 24 := ⟨Tryz.underlying45, by kernel_rfl, rfl, by decide⟩
set_option maxRecDepth 100000 in
set_option maxHeartbeats 2000000 in
theorem repeatE_any (W : World) (b0 n : Nat) (u : List Value) (hul : u.length = 2) (h1u : ∀ v ∈ u, v.oneCell' = true) (c0 : ∀ j v, u[j]? = some v → W.cell? ⟨b0, j, none⟩ = some v) (hb0 : b0 < W.heap.size) (hn : 1 ≤ n ∧ n ≤ 1000) :
    Calls Tryz.prog 40 #[.slice (some ⟨b0, 0, none⟩) 1 1, .int .i64 n] W fun e w' => ∃ g, e = .returned (.slice (some ⟨g, 0, none⟩) n n) ∧ St W w' [row 65 2 (.slice (some ⟨g, 0, none⟩) n n) n (List.replicate n u).flatten] := by
  have hnn : ¬ (n : Int) < 0 := by omega
  have hbig : decide ((9223372036854775807 : Int) < n) = false := by simp; omega
  have HU := Lib.hid hul
  have HC0 : Hid (∀ w, Below W.heap.size W w → ∀ j v, (List.replicate 1 u).flatten[j]? = some v → w.cell? ((⟨b0, 0, none⟩ : Addr).add j) = some v) := fun w hb j v hv => by
    rw [Addr.add_lit, Nat.zero_add]
    exact (hb.cell (p := ⟨b0, j, none⟩) hb0).trans (c0 j v (by simpa using hv))
  have H1 : Hid (∀ m, ∀ v ∈ (List.replicate m u).flatten, v.oneCell' = true) := fun m v hv => by
    obtain ⟨l, hl, hv⟩ := List.mem_flatten.1 hv
    rw [(List.mem_replicate.1 hl).2] at hv
    exact h1u v hv
  have HZL : Hid (([.int .i64 0, .string ⟨#[]⟩] : List Value).length = u.length) := by show _ = _; rw [hul]; rfl
  clear hul h1u c0 hb0
  have HMK : Hid (∀ (w1 : World) (g : Nat), St W w1 ([] ++ [row 65 2 (.slice (some ⟨g, 0, none⟩) n n) n (madeCells (.agg #[.int .i64 0, .string ⟨#[]⟩] : Value).cells (n * 2)).toList]) → w1.heap[g]? = some (.cells (fillU u [.int .i64 0, .string ⟨#[]⟩] n 0).toArray 65 (0, 0))) := fun w1 g S1 => by
    have h1 := row_block2 S1 (i := 0) rfl
    have hz := made_rep #[.int .i64 0, .string ⟨#[]⟩] (by decide) n
    have hz2 : (madeCells #[.int .i64 0, .string ⟨#[]⟩] (n * 2)).toList = fillU u [.int .i64 0, .string ⟨#[]⟩] n 0 := by simpa [fillU] using hz
    change w1.heap[g]? = some (.cells (madeCells #[.int .i64 0, .string ⟨#[]⟩] (n * 2)).toList.toArray _ _) at h1
    rw [hz2] at h1; exact h1
  go_enter Tryz.func40, Tryz.ntmps40
  go_wp2_with (first
    | (go_at_call 72; refine (mul1 n (by omega) _).mono ?_; rintro e w' ⟨rfl, rfl⟩)
    | (refine wpList_make_st eltEn rfl _ _ rfl (n := n) rfl rfl (St.refl W) (by omega) (by omega) ?_; intro w1 g S1 hg hb1
       have HB1 := Lib.hid (HMK.out w1 g S1))
    | (refine wpList_copy_sz rfl _ _ 45 45 rfl 65 2 Tryz.underlying45 (by kernel_rfl) ⟨b0, 0, none⟩ n n 1 1 g 0 rfl rfl (fillU u [.int .i64 0, .string ⟨#[]⟩] n 0) 65 HB1.out (List.replicate 1 u).flatten (by rw [rep_len, HU.out, show Nat.min 1 n = 1 from Nat.min_eq_left hn.1]) (HC0.out _ hb1) (by rw [rep_len, fillU_len HZL.out (Nat.zero_le _), HU.out]; omega) (H1.out 1) W.heap.size W hb1 hg ?_
       intro w2 HB2 hb2))
  have HF : Hid (w2.heap[g]? = some (.cells (fillU u [.int .i64 0, .string ⟨#[]⟩] n 1).toArray 65 (0, 0))) := by
    show _ = _
    have := fillU_splice (u := u) HZL.out (n := n) (k := 0) (m := 1) (by omega)
    rw [Nat.zero_mul] at this
    rw [HB2.out, this]
  clear HB1 HB2 S1 hb1
  go_loopw [8] (fun i w' => ∃ (k : Nat), k ≤ n ∧ i = .int .i64 k ∧ 0 < k ∧ Below W.heap.size W w' ∧ Hid (w'.heap[g]? = some (.cells (fillU u [.int .i64 0, .string ⟨#[]⟩] n k).toArray 65 (0, 0)))) (fun i _ => n - (intOf i).toNat)
  case atStart => exact ⟨1, hn.1, rfl, by omega, hb2, HF.out⟩
  case round =>
    obtain ⟨k, hk, rfl, hk0, hb, HC⟩ := hrel
    clear HF hb2
    by_cases hlt : k < n
    · have hkn : (k : Int) < n := by omega
      go_wp2_with fail
      refine wp_pre_tail 1 7 (fun w' => ∃ q, w' = wr.drewN q) (by kernel_rfl) (by kernel_rfl) ⟨1, rfl⟩ ?_
      simp only [List.take_succ_cons, List.take_zero, List.drop_succ_cons, List.drop_zero, Nat.reduceSub]
      generalize hK : (fun w' => ∃ q, w' = wr.drewN q) = K
      intro hne
      have kw : ∀ y : Wd K, ∃ q, y.w = wr.drewN q := by subst hK; exact fun y => y.h
      clear hK
      change wpQuiet _ _ _ _ (_ :: []) _
      go_big_quiet_step ((fail))
      refine wpQuiet_nil ?_
      repeat (go_big_quiet_step ((fail)))
      refine wpQuiet_nil ?_
      intro y
      obtain ⟨q, hq⟩ := kw y
      have hb3 : Below W.heap.size W y.w := by rw [hq]; exact below_drewN hb q
      have HC3 : Hid (y.w.heap[g]? = some (.cells (fillU u [.int .i64 0, .string ⟨#[]⟩] n k).toArray 65 (0, 0))) := by show _ = _; rw [hq]; exact HC.out
      clear kw hq hb HC
      generalize y.w = w3 at *
      obtain ⟨m, hm⟩ : ∃ m, m = Nat.min k (n - k) := ⟨_, rfl⟩
      have hm1 : m ≤ n - k := by rw [hm]; exact Nat.min_le_right _ _
      have hm2 : m ≤ k := by rw [hm]; exact Nat.min_le_left _ _
      have hm0 : 0 < m := by rw [hm]; show 0 < min k (n - k); omega
      have HMM := Lib.hid hm
      have HK2 : Hid (∀ j v, (List.replicate m u).flatten[j]? = some v → w3.cell? ((⟨g, 0, none⟩ : Addr).add j) = some v) := fun j v hv => by
        rw [Addr.add_lit, Nat.zero_add, cell_of_row w3 g j _ _ _ HC3.out]
        simpa using fillU_at hm2 hv
      clear hm
      have HK3 : Hid (k * 2 + (List.replicate m u).flatten.length ≤ (fillU u [.int .i64 0, .string ⟨#[]⟩] n k).length) := by
        show _ ≤ _
        rw [rep_len, fillU_len HZL.out hk, HU.out]; omega
      refine wpList_copy_sz rfl _ _ 45 45 rfl 65 2 Tryz.underlying45 (by kernel_rfl) ⟨g, 0, none⟩ (n - k) (n - k) k n g (k * 2) rfl rfl (fillU u [.int .i64 0, .string ⟨#[]⟩] n k) 65 HC3.out (List.replicate m u).flatten (by rw [rep_len, HU.out, HMM.out]) HK2.out HK3.out (H1.out m) W.heap.size W hb3 hg ?_
      intro w4 HC4 hb4
      have HC5 : Hid (w4.heap[g]? = some (.cells (fillU u [.int .i64 0, .string ⟨#[]⟩] n (k + m)).toArray 65 (0, 0))) := by
        show _ = _
        have := fillU_splice (u := u) HZL.out (n := n) (k := k) (m := m) (by omega)
        rw [HU.out] at this
        rw [HC4.out, this]
      rw [← HMM.out]
      clear HC4 HC3 HMM HK2 HK3
      go_wp2_with fail
      refine NoPanic.normal ?_
      go_wp2
      go_roundw
      case rel => exact ⟨k + m, by omega, by simp, by omega, hb4, HC5.out⟩
      case measure => simp [intOf]; omega
    · have hkb : decide ((k : Int) < n) = false := by simp; omega
      obtain rfl : k = n := by omega
      have S := st_of_block2 (size := 2) hb hg HC.out (by rw [fillU_len HZL.out (Nat.le_refl _), HU.out]) (by unfold maxLen; omega)
      have HS : Hid (St W wr [row 65 2 (.slice (some ⟨g, 0, none⟩) k k) k (List.replicate k u).flatten]) := by
        show St _ _ _
        simpa [fillU] using S
      clear S
      go_wp2
      go_ret
      exact ⟨g, rfl, HS.out⟩
end Go.Proofs.YtnaafefcijgpkaaGreatDoor
