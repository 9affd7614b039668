/- The laws on a polygon's test and on the hull. -/
import Derived.Test.YtmaodbmjknmepaaWGood
namespace Go.Proofs.Ytmaodbmjknmepaa
open Go.RowKit
theorem specIsPolygon_c (A : Option Addr) (n c : Nat) (l : List Pnt) (w : World) (h : RdP w w.heap.size A n l) (_hn : n ≤ 1048576) :
    Calls Try.prog 8 #[.slice A n c] w fun e w' => e = .returned (.bool (isPgn l)) ∧ Below w.heap.size w w' := by
  go_enter Try.func8, Try.ntmps8
  go_wp2_with fail
  refine (pyGood_c _ _ _ _ _ _ h (Nat.le_refl _)).mono ?_; rintro e w1 ⟨rfl, hb1⟩
  go_wp2_with fail
  go_ret
  exact ⟨rfl, hb1⟩
theorem implIsPolygon_c (A : Option Addr) (n c : Nat) (l : List Pnt) (w : World) (h : RdP w w.heap.size A n l) (_hn : n ≤ 1048576) :
    Calls Try.prog 10 #[.slice A n c] w fun e w' => e = .returned (.bool (isPgn l)) ∧ Below w.heap.size w w' := by
  go_enter Try.func10, Try.ntmps10
  go_wp2_with fail
  refine (isPolygon_c _ _ _ _ _ _ h (Nat.le_refl _)).mono ?_; rintro e w1 ⟨rfl, hb1⟩
  go_wp2_with fail
  go_ret
  exact ⟨rfl, hb1⟩
theorem walk_FnExactIsPolygon (A0 : Option Addr) (n0 c0 : Nat) (z0 : List Pnt) (w : World) (r0 : RdP w w.heap.size A0 n0 z0) :
  Calls Try.prog 3 #[.slice A0 n0 c0] w fun e w' => e = .returned (.bool true) ∧ Below w.heap.size w w' := by
  have l0 := r0.le
  by_cases s0 : (n0 : Int) ≤ 1048576
  rotate_left
  · go_enter Try.func3, Try.ntmps3
    go_wp2_with fail
    refine (szPointS_no _ _ _ _ _ (by omega) (by omega) (by omega)).mono ?_; rintro e w' ⟨rfl, rfl⟩
    go_wp2_with fail
    go_ret
    exact ⟨rfl, Below.refl _ _⟩
  go_enter Try.func3, Try.ntmps3
  have bel : Below w.heap.size w w := Below.refl _ _
  go_wp2_with fail
  refine (szPointS_yes _ _ _ _ _ (by omega) (by omega)).mono ?_; rintro e w' ⟨rfl, rfl⟩
  go_wp2_with fail
  refine (toPointS_c _ _ _ _ _ _ (r0.below bel) bel.size (by omega)).mono ?_
  rintro e u1 ⟨AT0, nT0, cT0, rfl, T0, hb1, qT0⟩
  have bel := bel_step bel hb1
  have sz1 := hb1.size
  have T00 := T0
  have eT0 : nT0 ≤ 1048576 := by have := T0.len; have := r0.len; omega
  go_wp2_with fail
  refine (specIsPolygon_c _ _ _ _ _ T0.rd eT0).mono ?_
  rintro e u2 ⟨rfl, hb2⟩
  have bel := bel_step bel hb2
  have sz2 := hb2.size
  have T0 := T0.go hb2
  go_wp2_with fail
  refine (toPointS_c _ _ _ _ _ _ (r0.below bel) bel.size (by omega)).mono ?_
  rintro e u3 ⟨AX0, nX0, cX0, rfl, X0, hb3, qX0⟩
  have bel := bel_step bel hb3
  have sz3 := hb3.size
  have X00 := X0
  have eX0 : nX0 ≤ 1048576 := by have := X0.len; have := r0.len; omega
  go_wp2_with fail
  refine (implIsPolygon_c _ _ _ _ _ X0.rd eX0).mono ?_
  rintro e u4 ⟨rfl, hb4⟩
  have bel := bel_step bel hb4
  have sz4 := hb4.size
  have X0 := X0.go hb4
  go_wp2_with fail
  refine (toPointS_c _ _ _ _ _ _ (r0.below bel) bel.size (by omega)).mono ?_
  rintro e u5 ⟨AY0, nY0, cY0, rfl, Y0, hb5, qY0⟩
  have bel := bel_step bel hb5
  have sz5 := hb5.size
  have X0 := X0.go hb5
  have Y00 := Y0
  have eY0 : nY0 ≤ 1048576 := by have := Y0.len; have := r0.len; omega
  go_wp2_with fail
  refine (eqPointS_c _ _ _ _ _ _ _ _ _ _ X0.rd Y0.rd (Nat.le_refl _) (Nat.le_refl _)).mono ?_
  rintro e u6 ⟨rfl, hb6⟩
  have bel := bel_step bel hb6
  have sz6 := hb6.size
  have X0 := X0.go hb6
  have Y0 := Y0.go hb6
  go_wp2_with fail
  go_ret
  exact ⟨rfl, bel⟩
theorem specHullOf_c (A : Option Addr) (n c : Nat) (l : List Pnt) (w : World) (h : RdP w w.heap.size A n l) (_hn : n ≤ 1048576) :
    Calls Try.prog 12 #[.slice A n c] w (RetPB 36 (pHull l).1 (pHull l).2 w) := by
  have HL := Lib.hid h.len
  cases hp : arePts l
  · have H : Hid (pHull l = ([], false)) := Lib.hid (by rw [pHull, hp]; rfl)
    have HP := Lib.hid hp
    clear hp
    go_enter Try.func12, Try.ntmps12
    go_wp2_with fail
    refine (pyPoints_c _ _ _ _ _ _ h (Nat.le_refl _)).mono ?_; rw [HP.out]; rintro e w1 ⟨rfl, hb1⟩
    go_wp2_with fail
    go_ret2
    rw [H.out]
    exact retPB_mk (OwnP.nil _ _ _) hb1 (by omega)
  · have H : Hid (pHull l = (hullP l, true)) := Lib.hid (by rw [pHull, hp]; rfl)
    have hn := arePts_len hp
    rw [HL.out] at hn
    have HB := Lib.hid (arePts_bd hp)
    have HP := Lib.hid hp
    clear hp
    go_enter Try.func12, Try.ntmps12
    go_wp2_with fail
    refine (pyPoints_c _ _ _ _ _ _ h (Nat.le_refl _)).mono ?_; rw [HP.out]; rintro e w1 ⟨rfl, hb1⟩
    go_wp2_with fail
    refine (pyHull_c _ _ _ _ _ _ (h.below hb1) hb1.size HB.out (by omega) (by omega)).mono ?_
    rintro e w2 ⟨A2, n2, c2, rfl, own2, hb2, hn2⟩
    have own2 := own2.more hb1.size
    have hb := bel_step hb1 hb2
    go_wp2_with fail
    go_ret2
    rw [H.out]
    exact retPB_mk own2 hb hn2
theorem implHullOf_c (A : Option Addr) (n c : Nat) (l : List Pnt) (w : World) (h : RdP w w.heap.size A n l) (_hn : n ≤ 1048576) :
    Calls Try.prog 13 #[.slice A n c] w (RetPB 36 (pHull l).1 (pHull l).2 w) := by
  have HL := Lib.hid h.len
  cases hp : arePts l
  · have H : Hid (pHull l = ([], false)) := Lib.hid (by rw [pHull, hp]; rfl)
    have HP := Lib.hid hp
    clear hp
    go_enter Try.func13, Try.ntmps13
    go_wp2_with fail
    refine (arePoints_c _ _ _ _ _ _ h (Nat.le_refl _)).mono ?_; rw [HP.out]; rintro e w1 ⟨rfl, hb1⟩
    go_wp2_with fail
    go_ret2
    rw [H.out]
    exact retPB_mk (OwnP.nil _ _ _) hb1 (by omega)
  · have H : Hid (pHull l = (hullP l, true)) := Lib.hid (by rw [pHull, hp]; rfl)
    have hn := arePts_len hp
    rw [HL.out] at hn
    have HB := Lib.hid (arePts_bd hp)
    have HP := Lib.hid hp
    clear hp
    go_enter Try.func13, Try.ntmps13
    go_wp2_with fail
    refine (arePoints_c _ _ _ _ _ _ h (Nat.le_refl _)).mono ?_; rw [HP.out]; rintro e w1 ⟨rfl, hb1⟩
    go_wp2_with fail
    refine (hull_c _ _ _ _ _ _ (h.below hb1) hb1.size HB.out (by omega) (by omega)).mono ?_
    rintro e w2 ⟨A2, n2, c2, rfl, own2, hb2, hn2⟩
    have own2 := own2.more hb1.size
    have hb := bel_step hb1 hb2
    go_wp2_with fail
    go_ret2
    rw [H.out]
    exact retPB_mk own2 hb hn2
theorem walk_FnExactHullOf (A0 : Option Addr) (n0 c0 : Nat) (z0 : List Pnt) (w : World) (r0 : RdP w w.heap.size A0 n0 z0) :
  Calls Try.prog 4 #[.slice A0 n0 c0] w fun e w' => e = .returned (.bool true) ∧ Below w.heap.size w w' := by
  have l0 := r0.le
  by_cases s0 : (n0 : Int) ≤ 1048576
  rotate_left
  · go_enter Try.func4, Try.ntmps4
    go_wp2_with fail
    refine (szPointS_no _ _ _ _ _ (by omega) (by omega) (by omega)).mono ?_; rintro e w' ⟨rfl, rfl⟩
    go_wp2_with fail
    go_ret
    exact ⟨rfl, Below.refl _ _⟩
  go_enter Try.func4, Try.ntmps4
  have bel : Below w.heap.size w w := Below.refl _ _
  go_wp2_with fail
  refine (szPointS_yes _ _ _ _ _ (by omega) (by omega)).mono ?_; rintro e w' ⟨rfl, rfl⟩
  go_wp2_with fail
  refine (toPointS_c _ _ _ _ _ _ (r0.below bel) bel.size (by omega)).mono ?_
  rintro e u1 ⟨AT0, nT0, cT0, rfl, T0, hb1, qT0⟩
  have bel := bel_step bel hb1
  have sz1 := hb1.size
  have T00 := T0
  have eT0 : nT0 ≤ 1048576 := by have := T0.len; have := r0.len; omega
  go_wp2_with fail
  refine (specHullOf_c _ _ _ _ _ T0.rd eT0).mono ?_
  rintro e u2 ⟨AWr, nWr, cWr, rfl, Wr, hb2, qWr⟩
  have bel := bel_step bel hb2
  have sz2 := hb2.size
  have T0 := T0.go hb2
  have Wr0 := Wr
  go_wp2_with fail
  refine (toPointS_c _ _ _ _ _ _ (r0.below bel) bel.size (by omega)).mono ?_
  rintro e u3 ⟨AX0, nX0, cX0, rfl, X0, hb3, qX0⟩
  have bel := bel_step bel hb3
  have sz3 := hb3.size
  have Wr := Wr.go hb3
  have X00 := X0
  have eX0 : nX0 ≤ 1048576 := by have := X0.len; have := r0.len; omega
  go_wp2_with fail
  refine (implHullOf_c _ _ _ _ _ X0.rd eX0).mono ?_
  rintro e u4 ⟨AGr, nGr, cGr, rfl, Gr, hb4, qGr⟩
  have bel := bel_step bel hb4
  have sz4 := hb4.size
  have Wr := Wr.go hb4
  have X0 := X0.go hb4
  have Gr0 := Gr
  go_wp2_with fail
  refine (eqPointS_c _ _ _ _ _ _ _ _ _ _ Gr.rd Wr.rd (Nat.le_refl _) (Nat.le_refl _)).mono ?_
  rintro e u5 ⟨rfl, hb5⟩
  have bel := bel_step bel hb5
  have sz5 := hb5.size
  have Wr := Wr.go hb5
  have X0 := X0.go hb5
  have Gr := Gr.go hb5
  go_wp2_with fail
  refine (toPointS_c _ _ _ _ _ _ (r0.below bel) bel.size (by omega)).mono ?_
  rintro e u6 ⟨AY0, nY0, cY0, rfl, Y0, hb6, qY0⟩
  have bel := bel_step bel hb6
  have sz6 := hb6.size
  have Wr := Wr.go hb6
  have X0 := X0.go hb6
  have Gr := Gr.go hb6
  have Y00 := Y0
  have eY0 : nY0 ≤ 1048576 := by have := Y0.len; have := r0.len; omega
  go_wp2_with fail
  refine (eqPointS_c _ _ _ _ _ _ _ _ _ _ X0.rd Y0.rd (Nat.le_refl _) (Nat.le_refl _)).mono ?_
  rintro e u7 ⟨rfl, hb7⟩
  have bel := bel_step bel hb7
  have sz7 := hb7.size
  have Wr := Wr.go hb7
  have X0 := X0.go hb7
  have Gr := Gr.go hb7
  have Y0 := Y0.go hb7
  go_wp2_with fail
  refine (markPointS_c _ _ _ _ _ _ _ X0 (by omega) (by omega) (by omega)).mono ?_
  rintro e u8 ⟨rfl, X0, hg8⟩
  have bel := bel.grown hg8 bel.size fun g hg => by have := (X00.lt g hg).1; omega
  have sz8 := hg8.size
  have Wr := Wr.kept hg8 (blk_ne Wr0.lt X00.lt (by omega))
  have Gr := Gr.kept hg8 (blk_ne' X00.lt Gr0.lt (by omega))
  go_wp2_with fail
  refine (eqPointS_c _ _ _ _ _ _ _ _ _ _ Gr.rd Wr.rd (Nat.le_refl _) (Nat.le_refl _)).mono ?_
  rintro e u9 ⟨rfl, hb9⟩
  have bel := bel_step bel hb9
  have sz9 := hb9.size
  have Wr := Wr.go hb9
  have X0 := X0.go hb9
  have Gr := Gr.go hb9
  go_wp2_with fail
  refine (markPointS_c _ _ _ _ _ _ _ Gr (by omega) (by omega) (by omega)).mono ?_
  rintro e u10 ⟨rfl, Gr, hg10⟩
  have bel := bel.grown hg10 bel.size fun g hg => by have := (Gr0.lt g hg).1; omega
  have sz10 := hg10.size
  have Wr := Wr.kept hg10 (blk_ne Wr0.lt Gr0.lt (by omega))
  go_wp2_with fail
  refine (heldPointS_c _ _ _ _ _ _ Gr.rd (by omega) (by omega) (by omega)).mono ?_
  rintro e u11 ⟨rfl, hb11⟩
  have bel := bel_step bel hb11
  have sz11 := hb11.size
  have Wr := Wr.go hb11
  have Gr := Gr.go hb11
  go_wp2_with fail
  refine (toPointS_c _ _ _ _ _ _ (r0.below bel) bel.size (by omega)).mono ?_
  rintro e u12 ⟨AZ0, nZ0, cZ0, rfl, Z0, hb12, qZ0⟩
  have bel := bel_step bel hb12
  have sz12 := hb12.size
  have Wr := Wr.go hb12
  have Gr := Gr.go hb12
  have Z00 := Z0
  have eZ0 : nZ0 ≤ 1048576 := by have := Z0.len; have := r0.len; omega
  go_wp2_with fail
  refine (implHullOf_c _ _ _ _ _ Z0.rd eZ0).mono ?_
  rintro e u13 ⟨AHr, nHr, cHr, rfl, Hr, hb13, qHr⟩
  have bel := bel_step bel hb13
  have sz13 := hb13.size
  have Wr := Wr.go hb13
  have Gr := Gr.go hb13
  have Z0 := Z0.go hb13
  have Hr0 := Hr
  go_wp2_with fail
  refine (eqPointS_c _ _ _ _ _ _ _ _ _ _ Hr.rd Wr.rd (Nat.le_refl _) (Nat.le_refl _)).mono ?_
  rintro e u14 ⟨rfl, hb14⟩
  have bel := bel_step bel hb14
  have sz14 := hb14.size
  have Wr := Wr.go hb14
  have Gr := Gr.go hb14
  have Hr := Hr.go hb14
  go_wp2_with fail
  refine (heldPointS_c _ _ _ _ _ _ Gr.rd (by omega) (by omega) (by omega)).mono ?_
  rintro e u15 ⟨rfl, hb15⟩
  have bel := bel_step bel hb15
  have sz15 := hb15.size
  have Wr := Wr.go hb15
  have Gr := Gr.go hb15
  have Hr := Hr.go hb15
  go_wp2_with fail
  go_ret
  exact ⟨rfl, bel⟩
end Go.Proofs.Ytmaodbmjknmepaa
