/- Chapter 5: the leaders: how two places compare; lists that are only read. -/
import Derived.Test.YtbakoldmfpbnaaaGreatDoorP11
import Derived.Test.YtbakoldmfpbnaaaGreatDoorP5
import Derived.Test.YtbakoldmfpbnaaaGreatDoorPT
set_option linter.unusedVariables false
set_option linter.unusedSimpArgs false
set_option linter.unusedSectionVars false
set_option linter.constructorNameAsVariable false
namespace Go.Mem
open Go.RowKit
theorem row_holds_rd {w : World} {F : Nat → Prop} {e : TypeId} {size n : Nat} {v : Value} {xs : List Value} (h : (row e size v n xs).holds w F) : Rd w F size v n xs := by
  obtain ⟨ho, hF⟩ := h
  have hc := @World.ownsRow.cells _ _ _ _ _ _ _ ho
  have hl := ho.lt
  rcases ho.2 with ⟨rfl, rfl⟩ | ⟨g, cap, cur, rfl, hb, hg, h1, h2, r⟩
  · exact ⟨none, 0, rfl, Nat.le_refl _, Nat.zero_le _, (by have := ho.1; simpa using this), (fun _ => rfl), (fun h => absurd h (by omega))⟩
  · exact ⟨_, cap, rfl, h1, h2, ho.1, (fun h => by cases h), fun _ => ⟨g, 0, rfl, hF g rfl, (hl g rfl).2, fun j u hu => by have := hc (g := g) rfl j u hu; rwa [Addr.add_lit] at this⟩⟩
theorem St.merge2 {W w : World} {A B C : Asr} {L : List Asr} (h : St W w (L ++ [A, B])) (hm : ∀ F1 F2, A.holds w F1 → B.holds w F2 → C.holds w (fun b => F1 b ∨ F2 b)) : St W w (L ++ [C]) := by
  have h1 : St W w (A :: B :: L) := h.perm List.perm_append_comm
  obtain ⟨F1, f1, f2, F2, g1, g2, g3⟩ := h1.2
  have h2 : St W w (C :: L) := ⟨h1.1, fun b => F1 b ∨ F2 b, fun b hb => hb.elim (f1 b) (fun h => (g1 b h).1), hm _ _ f2 g2, g3.mono fun b hb => ⟨hb.1.1, fun h => h.elim hb.1.2 hb.2⟩⟩
  exact h2.perm (List.perm_append_comm (l₁ := [C]))
end Go.Mem
namespace Go.Proofs.YtbakoldmfpbnaaaGreatDoor
open Go.RowKit Go.Mem Go.Sheet Go.Adj
/-- lists of n numbers that are only read -/
def lisA (n : Nat) (ms : List (Value × (Nat → Int))) : Asr where
  holds w F := ∀ p ∈ ms, Rd w F 1 p.1 n (intsI (gl p.2 n))
  loc := fun h hs hk p hp => Rd.loc (h p hp) hs hk
  mono := fun h hh p hp => Rd.mono (h p hp) fun b _ => hh b
theorem lisA_new {W w : World} {L : List Asr} (h : St W w L) (n : Nat) : St W w (L ++ [lisA n []]) := h.push (A := lisA n []) (F := fun _ => False) (Below.refl _ _) (fun p hp => by cases hp) (fun _ h => h.elim)
theorem lisA_push {W w : World} {L : List Asr} {n : Nat} {ms : List (Value × (Nat → Int))} {t : TypeId} {v : Value} {F : Nat → Int} (h : St W w (L ++ [lisA n ms, row t 1 v n (intsI (gl F n))])) : St W w (L ++ [lisA n (ms ++ [(v, F)])]) := by
  refine h.merge2 fun F1 F2 h1 h2 p hp => ?_
  rcases List.mem_append.1 hp with hp | hp
  · exact (h1 p hp).mono fun b _ hb => .inl hb
  · obtain rfl := List.mem_singleton.1 hp
    exact (row_holds_rd h2).mono fun b _ hb => .inr hb
theorem lisA_tab {W w : World} {L : List Asr} {i j n m : Nat} {t : TypeId} {v : Value} {ms : List (Value × (Nat → Int))} (h : St W w L) (hi : L[i]? = some (row t 1 v m (ms.map Prod.fst))) (hj : L[j]? = some (lisA n ms)) : RdTab w (· < w.heap.size) v m n (ms.map Prod.snd) := by
  refine ⟨_, (h.row_rd hi).now, fun k F hF => ?_⟩
  obtain ⟨G, hG, hh⟩ := h.get hj
  rw [List.getElem?_map, Option.map_eq_some_iff] at hF
  obtain ⟨p, hp, rfl⟩ := hF
  exact ⟨p.1, by rw [List.getElem?_map, hp]; rfl, (hh p (List.mem_of_getElem? hp)).mono fun b hb _ => hb⟩
set_option maxRecDepth 100000 in
set_option maxHeartbeats 4000000 in
theorem leaders1_ok (w : World) (gp b o q c x y : Nat) (ox oy : Int) (hx : x < q) (hy : y < q) (h0 : w.cell? ⟨gp, 0, none⟩ = some (.slice (some ⟨b, o, none⟩) q c)) (h1 : w.cell? ⟨b, o + x, none⟩ = some (.int .i64 ox)) (h2 : w.cell? ⟨b, o + y, none⟩ = some (.int .i64 oy)) :
    Calls Tryz.prog 55 #[.int .i64 x, .int .i64 y, .pointer (some ⟨gp, 0, none⟩)] w fun e w2 => e = .returned (.int .i64 (cmpI ox oy)) ∧ ∃ n, w2 = w.drewN n := by
  obtain ⟨cv, hcv⟩ : ∃ cv, cv = cmpI ox oy := ⟨_, rfl⟩
  have HCM : Hid (∀ w, Calls Tryz.prog 56 #[.int .i64 ox, .int .i64 oy] w fun e w' => e = .returned (.int .i64 cv) ∧ w = w') := fun w => by rw [hcv]; exact cmpInt_any ox oy w
  rw [← hcv]
  clear hcv
  have p1 : decide ((x : Int) < 0) = false := by simp
  have p2 : decide ((q : Int) ≤ (x : Int)) = false := by simp; omega
  have p3 : decide ((y : Int) < 0) = false := by simp
  have p4 : decide ((q : Int) ≤ (y : Int)) = false := by simp; omega
  have p5 : decide (q ≤ x) = false := by simp; omega
  have p6 : decide (q ≤ y) = false := by simp; omega
  go_enter Tryz.func55, Tryz.ntmps55
  go_wp2_with fail
  refine wp_cls 9 (fun w' => ∃ n, w' = w.drewN n) (by kernel_rfl) (by kernel_rfl) ⟨1, rfl⟩ ?_
  simp only [List.take_succ_cons, List.take_zero, List.drop_succ_cons, List.drop_zero]
  generalize hK : (fun w' => ∃ n, w' = w.drewN n) = K
  intro hne
  have kw : ∀ y : Wd K, ∃ n, y.w = w.drewN n := by subst hK; exact fun y => y.h
  have k0 : ∀ z : Wd K, z.w.cell? ⟨gp, 0, none⟩ = some (.slice (some ⟨b, o, none⟩) q c) := fun z => by obtain ⟨n, e⟩ := kw z; rw [e]; exact h0
  have k1 : ∀ z : Wd K, z.w.cell? ⟨b, o + x, none⟩ = some (.int .i64 ox) := fun z => by obtain ⟨n, e⟩ := kw z; rw [e]; exact h1
  have k2 : ∀ z : Wd K, z.w.cell? ⟨b, o + y, none⟩ = some (.int .i64 oy) := fun z => by obtain ⟨n, e⟩ := kw z; rw [e]; exact h2
  clear hK
  iterate 8 (go_big_quiet_step ((fail)))
  go_big_quiet_step ((exact cls_same (HCM.out _)))
  refine wpQuiet_nil ?_
  intro z
  obtain ⟨n, hz⟩ := kw z
  have hz' : z.w = w.drewN n := hz
  clear k0 k1 k2 kw hz hne
  generalize z.w = w3 at *
  go_wp2_with fail
  go_ret
  exact ⟨rfl, n, hz'⟩
set_option maxRecDepth 100000 in
set_option maxHeartbeats 4000000 in
theorem stableSort_zero (w : World) (A : Option Addr) (c : Nat) (f : Value) :
    Calls Tryz.prog 54 #[.slice A 0 c, f] w fun e w' => e = .returned (.tuple #[]) ∧ w = w' := by
  have HI : Hid (Calls Tryz.prog 105 #[.slice A 0 c, .int .i64 0, .int .i64 0, f] w fun e w' => e = .returned (.tuple #[]) ∧ w = w') := by
    show Calls _ _ _ _ _
    go_enter Tryz.func105, Tryz.ntmps105
    go_wp2_with fail
    go_loopw [8] (fun i w' => i = .int .i64 1 ∧ w' = w) (fun _ _ => 0)
    case atStart => exact ⟨rfl, rfl⟩
    case round =>
      obtain ⟨rfl, rfl⟩ := hrel
      go_wp2_with fail
      go_end0
      exact ⟨rfl, rfl⟩
  have HS : Hid (Calls Tryz.prog 83 #[.slice A 0 c, .int .i64 0, f] w fun e w' => e = .returned (.tuple #[]) ∧ w = w') := by
    show Calls _ _ _ _ _
    go_enter Tryz.func83, Tryz.ntmps83
    go_wp2_with fail
    go_loopw [7, 8] (fun i j w' => i = .int .i64 0 ∧ j = .int .i64 20 ∧ w' = w) (fun _ _ _ => 0)
    case atStart => exact ⟨rfl, rfl, rfl⟩
    case round =>
      obtain ⟨rfl, rfl, rfl⟩ := hrel
      go_wp2_with fail
      go_at_call 105
      refine HI.out.mono ?_
      rintro e w2 ⟨rfl, rfl⟩
      go_wp2_with fail
      go_loopw [6] (fun i w' => i = .int .i64 20 ∧ w' = wr) (fun _ _ => 0)
      case atStart => exact ⟨rfl, rfl⟩
      case round =>
        obtain ⟨rfl, rfl⟩ := hrel
        go_wp2_with fail
        go_end0
        exact ⟨rfl, rfl⟩
  go_enter Tryz.func54, Tryz.ntmps54
  go_wp2_with fail
  go_at_call 83
  refine HS.out.mono ?_
  rintro e w2 ⟨rfl, rfl⟩
  go_wp2_with fail
  go_end0
  exact ⟨rfl, rfl⟩
end Go.Proofs.YtbakoldmfpbnaaaGreatDoor
