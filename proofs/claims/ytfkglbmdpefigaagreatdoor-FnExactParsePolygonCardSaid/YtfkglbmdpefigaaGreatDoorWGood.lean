/- The test for a polygon: both packages' functions. -/
import Derived.Test.YtfkglbmdpefigaaGreatDoorWHul
namespace Go.Proofs.YtfkglbmdpefigaaGreatDoor
open Go.RowKit
set_option maxHeartbeats 1000000 in
theorem pyGood_c (A : Option Addr) (n c : Nat) (l : List Pnt) (B : Nat) (w : World) (h : RdP w B A n l) (hB : B ≤ w.heap.size) :
    Calls Tryz.prog 11 #[.slice A n c] w fun e w' => e = .returned (.bool (isPgn l)) ∧ Below w.heap.size w w' := by
  have HL := Lib.hid h.len
  cases hp : arePts l
  · have H : Hid (isPgn l = false) := Lib.hid (by rw [isPgn, hp]; rfl)
    have HP := Lib.hid hp
    clear hp
    go_enter Tryz.func11, Tryz.ntmps11
    go_wp2_with fail
    refine (pyPoints_c _ _ _ _ _ _ h hB).mono ?_; rw [HP.out]; rintro e w1 ⟨rfl, hb1⟩
    go_wp2_with fail
    go_ret
    exact ⟨retB H.out.symm, hb1⟩
  · have H : Hid (isPgn l = decide (hullP l = l)) := Lib.hid (by rw [isPgn, hp]; rfl)
    have hn := arePts_len hp
    rw [HL.out] at hn
    have HB := Lib.hid (arePts_bd hp)
    have HP := Lib.hid hp
    clear hp
    have HH := Lib.hid (hullP_len l)
    go_enter Tryz.func11, Tryz.ntmps11
    go_wp2_with fail
    refine (pyPoints_c _ _ _ _ _ _ h hB).mono ?_; rw [HP.out]; rintro e w1 ⟨rfl, hb1⟩
    go_wp2_with fail
    refine (pyHull_c _ _ _ _ _ _ (h.below (hb1.mono hB)) (Nat.le_trans hB hb1.size) HB.out (by omega) (by omega)).mono ?_
    rintro e w2 ⟨A2, n2, c2, rfl, own2, hb2, _⟩
    have hn2 : n2 ≤ 3000 := by have := own2.len; have := HH.out; rw [HL.out] at this; omega
    have hb := bel_step hb1 hb2
    go_wp2_with fail
    refine (pySame_c _ _ _ _ _ _ _ _ _ _ _ own2.rd (h.below (hb.mono hB)) (Nat.le_refl _) (Nat.le_trans hB hb.size) hn2).mono ?_
    rintro e w3 ⟨rfl, hb3⟩
    go_wp2_with fail
    go_ret
    exact ⟨retB H.out.symm, bel_step hb hb3⟩
set_option maxHeartbeats 1000000 in
theorem isPolygon_c (A : Option Addr) (n c : Nat) (l : List Pnt) (B : Nat) (w : World) (h : RdP w B A n l) (hB : B ≤ w.heap.size) :
    Calls Tryz.prog 15 #[.slice A n c] w fun e w' => e = .returned (.bool (isPgn l)) ∧ Below w.heap.size w w' := by
  have HL := Lib.hid h.len
  cases hp : arePts l
  · have H : Hid (isPgn l = false) := Lib.hid (by rw [isPgn, hp]; rfl)
    have HP := Lib.hid hp
    clear hp
    go_enter Tryz.func15, Tryz.ntmps15
    go_wp2_with fail
    refine (arePoints_c _ _ _ _ _ _ h hB).mono ?_; rw [HP.out]; rintro e w1 ⟨rfl, hb1⟩
    go_wp2_with fail
    go_ret
    exact ⟨retB H.out.symm, hb1⟩
  · have H : Hid (isPgn l = decide (hullP l = l)) := Lib.hid (by rw [isPgn, hp]; rfl)
    have hn := arePts_len hp
    rw [HL.out] at hn
    have HB := Lib.hid (arePts_bd hp)
    have HP := Lib.hid hp
    clear hp
    have HH := Lib.hid (hullP_len l)
    go_enter Tryz.func15, Tryz.ntmps15
    go_wp2_with fail
    refine (arePoints_c _ _ _ _ _ _ h hB).mono ?_; rw [HP.out]; rintro e w1 ⟨rfl, hb1⟩
    go_wp2_with fail
    refine (hull_c _ _ _ _ _ _ (h.below (hb1.mono hB)) (Nat.le_trans hB hb1.size) HB.out (by omega) (by omega)).mono ?_
    rintro e w2 ⟨A2, n2, c2, rfl, own2, hb2, _⟩
    have hn2 : n2 ≤ 3000 := by have := own2.len; have := HH.out; rw [HL.out] at this; omega
    have hb := bel_step hb1 hb2
    go_wp2_with fail
    refine (equalP_c _ _ _ _ _ _ _ _ _ _ _ own2.rd (h.below (hb.mono hB)) (Nat.le_refl _) (Nat.le_trans hB hb.size) hn2).mono ?_
    rintro e w3 ⟨rfl, hb3⟩
    go_wp2_with fail
    go_ret
    exact ⟨retB H.out.symm, bel_step hb hb3⟩
end Go.Proofs.YtfkglbmdpefigaaGreatDoor
