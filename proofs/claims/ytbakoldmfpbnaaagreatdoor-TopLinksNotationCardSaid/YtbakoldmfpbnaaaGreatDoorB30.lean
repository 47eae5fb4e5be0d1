/- Part 30 of the walks of the golf union's program: LR2. -/
import Derived.Test.YtbakoldmfpbnaaaGreatDoorB27
import Derived.Test.YtbakoldmfpbnaaaGreatDoorB29
set_option linter.unusedVariables false
set_option linter.unusedSimpArgs false
set_option linter.unusedSectionVars false
set_option linter.constructorNameAsVariable false
/- Chapters 1 and 5: the fixed example of linksRound. -/
namespace Go.Proofs.YtbakoldmfpbnaaaGreatDoor
open Go.RowKit Go.Mem Go.Sheet Go.Adj Go.Shelf
def hsR : List HI := [⟨4, 2⟩, ⟨3, 1⟩]
def esR : List EI := [⟨5, be⟩, ⟨4, bc⟩]
def tsR : List Tok := [.one ⟨5, be⟩, .one ⟨4, bc⟩]
def annR : ByteArray := ⟨#[97, 110, 110]⟩
def textR : ByteArray := ⟨#[53, 32, 52, 99]⟩
theorem goodR : GoodH hsR := ⟨by decide, by decide, by decide, fun i k hi hk => by
  have h2 : hsR.length = 2 := rfl
  obtain rfl : i = 1 := by omega
  obtain rfl : k = 0 := by omega
  decide⟩
theorem goodE0 : GoodE ⟨5, be⟩ := .inl ⟨.inl rfl, by decide, by decide⟩
theorem goodE1 : GoodE ⟨4, bc⟩ := .inl ⟨.inr rfl, by decide, by decide⟩
theorem goodER : ∀ i, i < 2 → GoodE (eAt esR i)
  | 0, _ => goodE0
  | 1, _ => goodE1
  | n + 2, h => by omega
theorem notaR : Nota tsR := ⟨fun k t h => by
  match k, h with
  | 0, h => cases h; exact ⟨goodE0, by decide⟩
  | 1, h => cases h; exact ⟨goodE1, by decide⟩, rfl, by simp [tsR], by decide⟩
theorem textW_R : wB (textW tsR) = textR := by decide
theorem wordsR_R : wB (joinW (wordsC esR ((2 + 8) / 9))) = textR := by decide
theorem esOf_R : esOf tsR tsR.length = esR := rfl
theorem scoreR : sumTo (fun i => (eAt esR i).s - givF hsR 3 i) 2 = 6 := by decide
theorem ptsR : gl (ptsL hsR esR 3) 2 = [2, 3] := by decide
theorem markR : ∀ i, i < 2 → (eAt esR i).m ≠ bx ∧ (eAt esR i).m ≠ bd
  | 0, _ => by decide
  | 1, _ => by decide
  | n + 2, h => by omega
theorem diffR : ∀ i, ∀ x y, esR[i]? = some x → esR[i + 1]? = some y → x ≠ y := by
  intro i x y h1 h2
  match i, h1, h2 with
  | 0, h1, h2 => cases h1; cases h2; decide
theorem nameR : nameB annR = true := by decide
set_option maxRecDepth 100000 in
set_option maxHeartbeats 4000000 in
theorem linksRound_any (W : World) (hg : GlobM W) : Calls Tryz.prog 7 #[] W fun e w' => e = .returned (.bool true) ∧ Below W.heap.size W w' := by
  have S0 := (St.refl W).row_new (e := 73) (size := 2) (n := 2) #[.int .i64 4, .int .i64 2, .int .i64 3, .int .i64 1] (by decide) rfl
  have HPA := Lib.hid (parse_any (W.alloc (.cells #[.int .i64 4, .int .i64 2, .int .i64 3, .int .i64 1] 73)) tsR notaR (hg.later ((Below.refl _ _).alloc (Nat.le_refl _) _)))
  rw [textW_R] at HPA
  have HS0 := Lib.hid S0
  clear S0
  go_enter Tryz.func7, Tryz.ntmps7
  go_wp2_with (go_at_call 9; refine HPA.out.mono ?_; rintro e w1 ⟨v', rfl, S1⟩; have HS1 := Lib.hid (HS0.out.call S1); clear S1)
  have S1 : St W w1 [row 73 2 (.slice (some ⟨W.heap.size, 0, none⟩) 2 2) 2 (hsR.flatMap HI.cells), row 54 2 v' 2 (esR.flatMap EI.cells)] := HS1.out
  obtain ⟨Ae, ce, rfl, _, _, hre⟩ := (S1.row_rd (i := 1) rfl).open_
  have hrh := S1.row_rd (i := 0) rfl
  have HPR := Lib.hid (print_any w1 _ 2 esR hre.now ⟨by decide, by decide⟩ goodER diffR)
  rw [wordsR_R] at HPR
  have HENV : Hid (∀ w, Below w1.heap.size w1 w → CEnv w (.slice (some ⟨W.heap.size, 0, none⟩) 2 2) (.slice Ae 2 ce) 2 hsR esR annR) := fun w hb => ⟨hrh.now.later hb, hre.now.later hb, goodR, nameR, by decide, goodER⟩
  have HB1 := Lib.hid S1.bel
  clear S1 hre hrh HS1 HS0 HPA
  go_wp2_with (go_at_call 8; refine HPR.out.mono ?_; rintro e w2 ⟨rfl, hb2⟩; have HB2 := Lib.hid hb2; clear hb2)
  have hb3 := HB2.out.alloc HB2.out.size (.cells #[.string ⟨#[97, 110, 110]⟩, .slice Ae 2 ce, .int .i64 3] 33)
  have hs3 : w2.heap.size < (w2.alloc (.cells #[.string ⟨#[97, 110, 110]⟩, .slice Ae 2 ce, .int .i64 3] 33)).heap.size := by simp
  have p0 : (w2.alloc (.cells #[.string ⟨#[97, 110, 110]⟩, .slice Ae 2 ce, .int .i64 3] 33)).cell? ⟨w2.heap.size, 0, none⟩ = some (.string ⟨#[97, 110, 110]⟩) := by simp
  have p1 : (w2.alloc (.cells #[.string ⟨#[97, 110, 110]⟩, .slice Ae 2 ce, .int .i64 3] 33)).cell? ⟨w2.heap.size, 1, none⟩ = some (.slice Ae 2 ce) := by simp
  have p2 : (w2.alloc (.cells #[.string ⟨#[97, 110, 110]⟩, .slice Ae 2 ce, .int .i64 3] 33)).cell? ⟨w2.heap.size, 2, none⟩ = some (.int .i64 3) := by simp
  generalize w2.alloc (.cells #[.string ⟨#[97, 110, 110]⟩, .slice Ae 2 ce, .int .i64 3] 33) = w3 at *
  generalize w2.heap.size = gp at *
  have hsc := score_ok w3 _ _ 2 hsR esR annR 3 (by decide) (HENV.out _ hb3) markR
  rw [scoreR] at hsc
  refine hsc.mono ?_
  rintro e w4 ⟨rfl, hb4⟩
  have q0 := (hb4.cell (p := ⟨gp, 0, none⟩) hs3).trans p0
  have q1 := (hb4.cell (p := ⟨gp, 1, none⟩) hs3).trans p1
  have q2 := (hb4.cell (p := ⟨gp, 2, none⟩) hs3).trans p2
  have hb14 := hb3.trans (hb4.mono hb3.size)
  have hpt := points_ok w4 _ _ 2 hsR esR annR 3 (by decide) (HENV.out _ hb14)
  rw [ptsR] at hpt
  have HPT := Lib.hid hpt
  have HB4 := Lib.hid hb14
  clear hsc hpt hb14 hb3 hb4 hs3 p0 p1 p2 HPR HENV HB2
  have tR : textR.toList = [53, 32, 52, 99] := by rw [ByteArray.toList_eq]; rfl
  go_wp2_with (go_at_call 12; refine HPT.out.mono ?_; rintro e w5 ⟨v5, rfl, S5⟩; obtain ⟨A5, c5, rfl, _, _, hr5⟩ := (S5.row_rd (i := 0) rfl).open_; obtain ⟨b5, o5, rfl, _, _, hc5⟩ := hr5.addr (by decide); have r0 := hc5 0 _ rfl; have r1 := hc5 1 _ rfl; rw [Nat.add_zero] at r0; have HB5 := Lib.hid S5.bel; clear hr5 hc5 S5)
  go_ret
  exact ⟨rfl, HB1.out.trans ((HB4.out.trans (HB5.out.mono HB4.out.size)).mono HB1.out.size)⟩
end Go.Proofs.YtbakoldmfpbnaaaGreatDoor
