/- The laws on the value of a plane polynomial at a point: both packages' functions against plain ones, and the walk of each law. -/
import Derived.Test.YtfamemjlhgkneaaWPlane
import Derived.Test.YtfamemjlhgkneaaSlMin
namespace Go.Proofs.Ytfamemjlhgkneaa
open Go.RowKit
theorem asked_partsT {l : List Trm} {x y : Int} (h : askedT l x y = true) : isPlane l = true ∧ isFin x = true ∧ isFin y = true := by
  simp only [askedT, Bool.and_eq_true] at h
  exact ⟨h.1.1.1, h.1.1.2, h.1.2⟩
theorem pPlaneValue_no {l : List Trm} {x y : Int} (h : (isPlane l && (isFin x && isFin y)) = false) : askedT l x y = false := by
  have : askedT l x y = ((isPlane l && (isFin x && isFin y)) && isFin (least (valsT l x y l.length))) := by
    unfold askedT
    cases isPlane l <;> cases isFin x <;> cases isFin y <;> rfl
  rw [this, h]
  rfl
theorem RdT.go {w w' : World} {B n : Nat} {A : Option Addr} {l : List Trm} (h : RdT w B A n l) (hb : Below w.heap.size w w') (hB : B ≤ w.heap.size) : RdT w' B A n l := h.below (hb.mono hB)
theorem plAsked_c (A : Option Addr) (n c : Nat) (l : List Trm) (x y : Int) (w : World) (h : RdT w w.heap.size A n l) :
    Calls Try.prog 52 #[.slice A n c, .int .i64 x, .int .i64 y] w fun e w' => e = .returned (.bool (askedT l x y)) ∧ Below w.heap.size w w' := by
  cases hp : isPlane l
  · have H : Hid (askedT l x y = false) := Lib.hid (by rw [askedT, hp]; rfl)
    have HP := Lib.hid hp
    clear hp
    go_enter Try.func52, Try.ntmps52
    go_wp2_with (go_at_call 47; refine (plGood_c _ _ _ _ _ _ h (Nat.le_refl _)).mono ?_; rw [HP.out]; rintro e w1 ⟨rfl, hb⟩)
    go_ret
    exact ⟨retB H.out.symm, hb⟩
  cases hx : isFin x
  · have H : Hid (askedT l x y = false) := Lib.hid (by rw [askedT, hp, hx]; rfl)
    have HP := Lib.hid hp
    have HX := Lib.hid hx
    clear hp hx
    go_enter Try.func52, Try.ntmps52
    go_wp2_with (first
      | (go_at_call 47; refine (plGood_c _ _ _ _ _ _ h (Nat.le_refl _)).mono ?_; rw [HP.out]; rintro e w1 ⟨rfl, hb⟩)
      | (go_at_call 62; refine (poFinite_c _ _).mono ?_; rw [HX.out]; rintro e w' ⟨rfl, rfl⟩))
    go_ret
    exact ⟨retB H.out.symm, hb⟩
  cases hy : isFin y
  · have H : Hid (askedT l x y = false) := Lib.hid (by rw [askedT, hp, hx, hy]; rfl)
    have HP := Lib.hid hp
    have HX := Lib.hid hx
    have HY := Lib.hid hy
    clear hp hx hy
    go_enter Try.func52, Try.ntmps52
    go_wp2_with fail
    refine (plGood_c _ _ _ _ _ _ h (Nat.le_refl _)).mono ?_; rw [HP.out]; rintro e w1 ⟨rfl, hb⟩
    go_wp2_with fail
    refine (poFinite_c _ _).mono ?_; rw [HX.out]; rintro e w' ⟨rfl, rfl⟩
    go_wp2_with fail
    refine (poFinite_c _ _).mono ?_; rw [HY.out]; rintro e w' ⟨rfl, rfl⟩
    go_wp2_with fail
    go_ret
    exact ⟨retB H.out.symm, hb⟩
  have H : Hid (askedT l x y = isFin (least (valsT l x y l.length))) := Lib.hid (by rw [askedT, hp, hx, hy]; rfl)
  have HP := Lib.hid hp
  have HX := Lib.hid hx
  have HY := Lib.hid hy
  clear hp hx hy
  go_enter Try.func52, Try.ntmps52
  go_wp2_with fail
  refine (plGood_c _ _ _ _ _ _ h (Nat.le_refl _)).mono ?_; rw [HP.out]; rintro e w1 ⟨rfl, hb⟩
  go_wp2_with fail
  refine (poFinite_c _ _).mono ?_; rw [HX.out]; rintro e w' ⟨rfl, rfl⟩
  go_wp2_with fail
  refine (poFinite_c _ _).mono ?_; rw [HY.out]; rintro e w' ⟨rfl, rfl⟩
  go_wp2_with fail
  refine (plValues_c _ _ _ _ _ _ _ _ (h.go hb (Nat.le_refl _)) hb.size HP.out HX.out HY.out).mono ?_; rintro e w2 ⟨A1, n1, c1, rfl, own, hb2, hn1⟩
  go_wp2_with fail
  refine (nuSum_c _ _ _ _ _ _ own.rd).mono ?_; rintro e w' ⟨rfl, rfl⟩
  go_wp2_with fail
  refine (poFinite_c _ _).mono ?_; rintro e w' ⟨rfl, rfl⟩
  go_wp2_with fail
  go_ret
  exact ⟨retB H.out.symm, bel_step hb hb2⟩
theorem specPlaneValue_c (A : Option Addr) (n c : Nat) (l : List Trm) (x y : Int) (w : World) (h : RdT w w.heap.size A n l) (_hn : n ≤ 1048576) :
    Calls Try.prog 21 #[.slice A n c, .int .i64 x, .int .i64 y] w fun e w' => e = .returned (.tuple #[.int .i64 (pPlaneValue l x y).1, .bool (pPlaneValue l x y).2]) ∧ Below w.heap.size w w' := by
  cases ha : askedT l x y
  · have H : Hid (pPlaneValue l x y = (0, false)) := Lib.hid (by rw [pPlaneValue, ha]; rfl)
    have HA := Lib.hid ha
    clear ha
    go_enter Try.func21, Try.ntmps21
    go_wp2_with fail
    refine (plAsked_c _ _ _ _ _ _ _ h).mono ?_; rw [HA.out]; rintro e w1 ⟨rfl, hb⟩
    go_wp2_with fail
    go_ret2
    exact ⟨by rw [H.out]; rfl, hb⟩
  · have H : Hid (pPlaneValue l x y = (least (valsT l x y l.length), true)) := Lib.hid (by rw [pPlaneValue, ha]; rfl)
    obtain ⟨hp, hx, hy⟩ := asked_partsT ha
    have HP := Lib.hid hp
    have HX := Lib.hid hx
    have HY := Lib.hid hy
    have HA := Lib.hid ha
    clear ha hp hx hy
    go_enter Try.func21, Try.ntmps21
    go_wp2_with fail
    refine (plAsked_c _ _ _ _ _ _ _ h).mono ?_; rw [HA.out]; rintro e w1 ⟨rfl, hb⟩
    go_wp2_with fail
    refine (plValues_c _ _ _ _ _ _ _ _ (h.go hb (Nat.le_refl _)) hb.size HP.out HX.out HY.out).mono ?_; rintro e w2 ⟨A1, n1, c1, rfl, own, hb2, hn1⟩
    go_wp2_with fail
    refine (nuSum_c _ _ _ _ _ _ own.rd).mono ?_; rintro e w' ⟨rfl, rfl⟩
    go_wp2_with fail
    go_ret2
    exact ⟨by rw [H.out]; rfl, bel_step hb hb2⟩
theorem implPlaneValue_c (A : Option Addr) (n c : Nat) (l : List Trm) (x y : Int) (w : World) (h : RdT w w.heap.size A n l) (_hn : n ≤ 1048576) :
    Calls Try.prog 22 #[.slice A n c, .int .i64 x, .int .i64 y] w fun e w' => e = .returned (.tuple #[.int .i64 (pPlaneValue l x y).1, .bool (pPlaneValue l x y).2]) ∧ Below w.heap.size w w' := by
  cases hp : isPlane l
  · have H : Hid (pPlaneValue l x y = (0, false)) := Lib.hid (by rw [pPlaneValue, pPlaneValue_no (by rw [hp]; rfl)]; rfl)
    have HP := Lib.hid hp
    clear hp
    go_enter Try.func22, Try.ntmps22
    go_wp2_with (go_at_call 49; refine (isPlane_c _ _ _ _ _ _ h (Nat.le_refl _)).mono ?_; rw [HP.out]; rintro e w1 ⟨rfl, hb⟩)
    go_ret2
    exact ⟨by rw [H.out]; rfl, hb⟩
  cases hf : [x, y].all isFin
  · have hf' : (isFin x && isFin y) = false := by simpa using hf
    have H : Hid (pPlaneValue l x y = (0, false)) := Lib.hid (by rw [pPlaneValue, pPlaneValue_no (by rw [hp, hf']; rfl)]; rfl)
    have HP := Lib.hid hp
    have HF := Lib.hid hf
    clear hp hf hf'
    go_enter Try.func22, Try.ntmps22
    go_wp2_with fail
    refine (isPlane_c _ _ _ _ _ _ h (Nat.le_refl _)).mono ?_; rw [HP.out]; rintro e w1 ⟨rfl, hb⟩
    have R := Rd.lit w1 [x, y] 3 (two_le _ _)
    have bel := hb.alloc hb.size (.cells #[.int .i64 x, .int .i64 y] 3)
    go_wp2_with (go_at_call 55; refine (areFinite_c _ _ _ _ _ _ R).mono ?_; rw [HF.out]; rintro e w' ⟨rfl, rfl⟩)
    go_ret2
    exact ⟨by rw [H.out]; rfl, bel⟩
  · obtain ⟨hx, hy⟩ : isFin x = true ∧ isFin y = true := by simpa using hf
    have H : Hid (told (least (valsT l x y l.length)) = pPlaneValue l x y) := Lib.hid (told_fin hp hx hy)
    have hl := isPlane_len hp
    have hv := Lib.hid fun (j : Nat) (hj : j < (valsT l x y l.length).length) => valsT_bd hp hx hy l.length (Nat.le_refl _) _ (getD_mem (zs := valsT l x y l.length) hj)
    have hvl : Hid ((valsT l x y l.length).length = l.length) := Lib.hid (valsT_len _ _ _ _)
    have HP := Lib.hid hp
    have HF := Lib.hid hf
    have HX := Lib.hid hx
    have HY := Lib.hid hy
    clear hp hf hx hy
    go_enter Try.func22, Try.ntmps22
    go_wp2_with fail
    refine (isPlane_c _ _ _ _ _ _ h (Nat.le_refl _)).mono ?_; rw [HP.out]; rintro e w1 ⟨rfl, hb⟩
    have R := Rd.lit w1 [x, y] 3 (two_le _ _)
    have bel := hb.alloc hb.size (.cells #[.int .i64 x, .int .i64 y] 3)
    go_wp2_with fail
    refine (areFinite_c _ _ _ _ _ _ R).mono ?_; rw [HF.out]; rintro e w' ⟨rfl, rfl⟩
    go_wp2_with fail
    refine (planeValues_c _ _ _ _ _ _ _ _ (h.go bel (Nat.le_refl _)) bel.size HP.out HX.out HY.out).mono ?_; rintro e w2 ⟨A1, n1, c1, rfl, own, hb2, hn1⟩
    have hn1' : 0 < n1 := by have := own.len; rw [hvl.out] at this; omega
    have hv0 := hv.out 0 (by rw [hvl.out]; omega)
    go_wp2_with fail
    refine (slicesMin_c _ _ _ _ _ _ own.rd hn1' (by omega)).mono ?_; rintro e w' ⟨rfl, rfl⟩
    go_wp2_with fail
    refine (told_c _ _).mono ?_; rw [H.out]; rintro e w' ⟨rfl, rfl⟩
    go_wp2_with fail
    go_ret2
    exact ⟨rfl, bel_step bel hb2⟩
theorem walk_FnExactPlaneValue (A0 : Option Addr) (n0 c0 : Nat) (z0 : List Trm) (a1 : Int) (a2 : Int) (w : World) (r0 : RdT w w.heap.size A0 n0 z0) (w1 : (Lit.int .i64 a1).wf = true) (w2 : (Lit.int .i64 a2).wf = true) :
  Calls Try.prog 5 #[.slice A0 n0 c0, .int .i64 a1, .int .i64 a2] w fun e w' => e = .returned (.bool true) ∧ Below w.heap.size w w' := by
  have _w := w1
  have _w := w2
  have l0 := r0.le
  by_cases s0 : (n0 : Int) ≤ 1048576
  rotate_left
  · go_enter Try.func5, Try.ntmps5
    go_wp2_with fail
    refine (szTermS_no _ _ _ _ _ (by omega) (by omega) (by omega)).mono ?_; rintro e w' ⟨rfl, rfl⟩
    go_wp2_with fail
    go_ret
    exact ⟨rfl, Below.refl _ _⟩
  go_enter Try.func5, Try.ntmps5
  have bel : Below w.heap.size w w := Below.refl _ _
  go_wp2_with fail
  refine (szTermS_yes _ _ _ _ _ (by omega) (by omega)).mono ?_; rintro e w' ⟨rfl, rfl⟩
  go_wp2_with fail
  refine (toTermS_c _ _ _ _ _ _ (r0.below bel) bel.size (by omega)).mono ?_
  rintro e u1 ⟨AT0, nT0, cT0, rfl, T0, hb1, qT0⟩
  have bel := bel_step bel hb1
  have sz1 := hb1.size
  have T00 := T0
  have eT0 : nT0 ≤ 1048576 := by have := T0.len; have := r0.len; omega
  go_wp2_with fail
  refine (specPlaneValue_c _ _ _ _ _ _ _ T0.rd eT0).mono ?_
  rintro e u2 ⟨rfl, hb2⟩
  have bel := bel_step bel hb2
  have sz2 := hb2.size
  have T0 := T0.go hb2
  go_wp2_with fail
  refine (toTermS_c _ _ _ _ _ _ (r0.below bel) bel.size (by omega)).mono ?_
  rintro e u3 ⟨AX0, nX0, cX0, rfl, X0, hb3, qX0⟩
  have bel := bel_step bel hb3
  have sz3 := hb3.size
  have X00 := X0
  have eX0 : nX0 ≤ 1048576 := by have := X0.len; have := r0.len; omega
  go_wp2_with fail
  refine (implPlaneValue_c _ _ _ _ _ _ _ X0.rd eX0).mono ?_
  rintro e u4 ⟨rfl, hb4⟩
  have bel := bel_step bel hb4
  have sz4 := hb4.size
  have X0 := X0.go hb4
  go_wp2_with fail
  refine (toTermS_c _ _ _ _ _ _ (r0.below bel) bel.size (by omega)).mono ?_
  rintro e u5 ⟨AY0, nY0, cY0, rfl, Y0, hb5, qY0⟩
  have bel := bel_step bel hb5
  have sz5 := hb5.size
  have X0 := X0.go hb5
  have Y00 := Y0
  have eY0 : nY0 ≤ 1048576 := by have := Y0.len; have := r0.len; omega
  go_wp2_with fail
  refine (eqTermS_c _ _ _ _ _ _ _ _ _ _ X0.rd Y0.rd (Nat.le_refl _) (Nat.le_refl _)).mono ?_
  rintro e u6 ⟨rfl, hb6⟩
  have bel := bel_step bel hb6
  have sz6 := hb6.size
  have X0 := X0.go hb6
  have Y0 := Y0.go hb6
  go_wp2_with fail
  go_ret
  exact ⟨rfl, bel⟩
theorem specPlaneLeast_c (A : Option Addr) (n c : Nat) (l : List Trm) (x y : Int) (w : World) (h : RdT w w.heap.size A n l) (_hn : n ≤ 1048576) :
    Calls Try.prog 39 #[.slice A n c, .int .i64 x, .int .i64 y] w (RetOwnB 3 (pPlaneLeast l x y).1 (pPlaneLeast l x y).2 w) := by
  cases ha : askedT l x y
  · have H : Hid (pPlaneLeast l x y = ([], false)) := Lib.hid (by rw [pPlaneLeast, ha]; rfl)
    have HA := Lib.hid ha
    clear ha
    go_enter Try.func39, Try.ntmps39
    go_wp2_with fail
    refine (plAsked_c _ _ _ _ _ _ _ h).mono ?_; rw [HA.out]; rintro e w1 ⟨rfl, hb⟩
    go_wp2_with fail
    go_ret2
    rw [H.out]
    exact retOwnB_mk (Own.nil _ _ _) hb (by omega)
  · have H : Hid (pPlaneLeast l x y = (places (valsT l x y l.length) (least (valsT l x y l.length)), true)) := Lib.hid (by rw [pPlaneLeast, ha]; rfl)
    obtain ⟨hp, hx, hy⟩ := asked_partsT ha
    have HP := Lib.hid hp
    have HX := Lib.hid hx
    have HY := Lib.hid hy
    have HA := Lib.hid ha
    clear ha hp hx hy
    go_enter Try.func39, Try.ntmps39
    go_wp2_with fail
    refine (plAsked_c _ _ _ _ _ _ _ h).mono ?_; rw [HA.out]; rintro e w1 ⟨rfl, hb⟩
    go_wp2_with fail
    refine (plValues_c _ _ _ _ _ _ _ _ (h.go hb (Nat.le_refl _)) hb.size HP.out HX.out HY.out).mono ?_; rintro e w2 ⟨A1, n1, c1, rfl, own, hb2, hn1⟩
    go_wp2_with fail
    refine (nuPlaces_c _ _ _ _ _ _ own.rd (Nat.le_refl _) (by omega)).mono ?_; rintro e w3 ⟨A2, n2, c2, rfl, own2, hb3, hn2⟩
    go_wp2_with fail
    go_ret2
    rw [H.out]
    exact retOwnB_mk (own2.more (Nat.le_trans hb.size hb2.size)) (bel_step (bel_step hb hb2) hb3) hn2
theorem implPlaneLeast_c (A : Option Addr) (n c : Nat) (l : List Trm) (x y : Int) (w : World) (h : RdT w w.heap.size A n l) (_hn : n ≤ 1048576) :
    Calls Try.prog 40 #[.slice A n c, .int .i64 x, .int .i64 y] w (RetOwnB 3 (pPlaneLeast l x y).1 (pPlaneLeast l x y).2 w) := by
  cases ha : askedT l x y
  · have H : Hid (pPlaneLeast l x y = ([], false)) := Lib.hid (by rw [pPlaneLeast, ha]; rfl)
    have HV : Hid (pPlaneValue l x y = (0, false)) := Lib.hid (by rw [pPlaneValue, ha]; rfl)
    clear ha
    go_enter Try.func40, Try.ntmps40
    go_wp2_with fail
    refine (implPlaneValue_c _ _ _ _ _ _ _ h _hn).mono ?_; rw [HV.out]; rintro e w1 ⟨rfl, hb⟩
    go_wp2_with fail
    go_ret2
    rw [H.out]
    exact retOwnB_mk (Own.nil _ _ _) hb (by omega)
  · have H : Hid (pPlaneLeast l x y = (places (valsT l x y l.length) (least (valsT l x y l.length)), true)) := Lib.hid (by rw [pPlaneLeast, ha]; rfl)
    have HV : Hid (pPlaneValue l x y = (least (valsT l x y l.length), true)) := Lib.hid (by rw [pPlaneValue, ha]; rfl)
    obtain ⟨hp, hx, hy⟩ := asked_partsT ha
    have HP := Lib.hid hp
    have HX := Lib.hid hx
    have HY := Lib.hid hy
    clear ha hp hx hy
    go_enter Try.func40, Try.ntmps40
    go_wp2_with fail
    refine (implPlaneValue_c _ _ _ _ _ _ _ h _hn).mono ?_; rw [HV.out]; rintro e w1 ⟨rfl, hb⟩
    go_wp2_with fail
    refine (planeValues_c _ _ _ _ _ _ _ _ (h.go hb (Nat.le_refl _)) hb.size HP.out HX.out HY.out).mono ?_; rintro e w2 ⟨A1, n1, c1, rfl, own, hb2, hn1⟩
    go_wp2_with fail
    refine (placesOf_c _ _ _ _ _ _ _ own.rd (Nat.le_refl _) (by omega)).mono ?_; rintro e w3 ⟨A2, n2, c2, rfl, own2, hb3, hn2⟩
    go_wp2_with fail
    go_ret2
    rw [H.out]
    exact retOwnB_mk (own2.more (Nat.le_trans hb.size hb2.size)) (bel_step (bel_step hb hb2) hb3) hn2
theorem walk_FnExactPlaneLeast (A0 : Option Addr) (n0 c0 : Nat) (z0 : List Trm) (a1 : Int) (a2 : Int) (w : World) (r0 : RdT w w.heap.size A0 n0 z0) (w1 : (Lit.int .i64 a1).wf = true) (w2 : (Lit.int .i64 a2).wf = true) :
  Calls Try.prog 10 #[.slice A0 n0 c0, .int .i64 a1, .int .i64 a2] w fun e w' => e = .returned (.bool true) ∧ Below w.heap.size w w' := by
  have _w := w1
  have _w := w2
  have l0 := r0.le
  by_cases s0 : (n0 : Int) ≤ 1048576
  rotate_left
  · go_enter Try.func10, Try.ntmps10
    go_wp2_with fail
    refine (szTermS_no _ _ _ _ _ (by omega) (by omega) (by omega)).mono ?_; rintro e w' ⟨rfl, rfl⟩
    go_wp2_with fail
    go_ret
    exact ⟨rfl, Below.refl _ _⟩
  go_enter Try.func10, Try.ntmps10
  have bel : Below w.heap.size w w := Below.refl _ _
  go_wp2_with fail
  refine (szTermS_yes _ _ _ _ _ (by omega) (by omega)).mono ?_; rintro e w' ⟨rfl, rfl⟩
  go_wp2_with fail
  refine (toTermS_c _ _ _ _ _ _ (r0.below bel) bel.size (by omega)).mono ?_
  rintro e u1 ⟨AT0, nT0, cT0, rfl, T0, hb1, qT0⟩
  have bel := bel_step bel hb1
  have sz1 := hb1.size
  have T00 := T0
  have eT0 : nT0 ≤ 1048576 := by have := T0.len; have := r0.len; omega
  go_wp2_with fail
  refine (specPlaneLeast_c _ _ _ _ _ _ _ T0.rd eT0).mono ?_
  rintro e u2 ⟨AWr, nWr, cWr, rfl, Wr, hb2, qWr⟩
  have bel := bel_step bel hb2
  have sz2 := hb2.size
  have T0 := T0.go hb2
  have Wr0 := Wr
  go_wp2_with fail
  refine (toTermS_c _ _ _ _ _ _ (r0.below bel) bel.size (by omega)).mono ?_
  rintro e u3 ⟨AX0, nX0, cX0, rfl, X0, hb3, qX0⟩
  have bel := bel_step bel hb3
  have sz3 := hb3.size
  have Wr := Wr.go hb3
  have X00 := X0
  have eX0 : nX0 ≤ 1048576 := by have := X0.len; have := r0.len; omega
  go_wp2_with fail
  refine (implPlaneLeast_c _ _ _ _ _ _ _ X0.rd eX0).mono ?_
  rintro e u4 ⟨AGr, nGr, cGr, rfl, Gr, hb4, qGr⟩
  have bel := bel_step bel hb4
  have sz4 := hb4.size
  have Wr := Wr.go hb4
  have X0 := X0.go hb4
  have Gr0 := Gr
  go_wp2_with fail
  refine (eqIntS_c _ _ _ _ _ _ _ _ _ _ Gr.rd Wr.rd).mono ?_
  rintro e u5 ⟨rfl, hb5⟩
  have bel := bel_step bel hb5
  have sz5 := hb5.size
  have Wr := Wr.go hb5
  have X0 := X0.go hb5
  have Gr := Gr.go hb5
  go_wp2_with fail
  refine (toTermS_c _ _ _ _ _ _ (r0.below bel) bel.size (by omega)).mono ?_
  rintro e u6 ⟨AY0, nY0, cY0, rfl, Y0, hb6, qY0⟩
  have bel := bel_step bel hb6
  have sz6 := hb6.size
  have Wr := Wr.go hb6
  have X0 := X0.go hb6
  have Gr := Gr.go hb6
  have Y00 := Y0
  have eY0 : nY0 ≤ 1048576 := by have := Y0.len; have := r0.len; omega
  go_wp2_with fail
  refine (eqTermS_c _ _ _ _ _ _ _ _ _ _ X0.rd Y0.rd (Nat.le_refl _) (Nat.le_refl _)).mono ?_
  rintro e u7 ⟨rfl, hb7⟩
  have bel := bel_step bel hb7
  have sz7 := hb7.size
  have Wr := Wr.go hb7
  have X0 := X0.go hb7
  have Gr := Gr.go hb7
  have Y0 := Y0.go hb7
  go_wp2_with fail
  refine (markTermS_c _ _ _ _ _ _ _ X0 (by omega) (by omega) (by omega)).mono ?_
  rintro e u8 ⟨rfl, X0, hg8⟩
  have bel := bel.grown hg8 bel.size fun g hg => by have := (X00.lt g hg).1; omega
  have sz8 := hg8.size
  have Wr := Wr.kept hg8 (blk_ne Wr0.lt X00.lt (by omega))
  have Gr := Gr.kept hg8 (blk_ne' X00.lt Gr0.lt (by omega))
  go_wp2_with fail
  refine (eqIntS_c _ _ _ _ _ _ _ _ _ _ Gr.rd Wr.rd).mono ?_
  rintro e u9 ⟨rfl, hb9⟩
  have bel := bel_step bel hb9
  have sz9 := hb9.size
  have Wr := Wr.go hb9
  have X0 := X0.go hb9
  have Gr := Gr.go hb9
  go_wp2_with fail
  refine (markIntS_c _ _ _ _ _ _ _ Gr (by omega) (by omega) (by omega)).mono ?_
  rintro e u10 ⟨rfl, Gr, hg10⟩
  have bel := bel.grown hg10 bel.size fun g hg => by have := (Gr0.lt g hg).1; omega
  have sz10 := hg10.size
  have Wr := Wr.kept hg10 (blk_ne Wr0.lt Gr0.lt (by omega))
  go_wp2_with fail
  refine (heldIntS_c _ _ _ _ _ _ Gr.rd (by omega) (by omega) (by omega)).mono ?_
  rintro e u11 ⟨rfl, hb11⟩
  have bel := bel_step bel hb11
  have sz11 := hb11.size
  have Wr := Wr.go hb11
  have Gr := Gr.go hb11
  go_wp2_with fail
  refine (toTermS_c _ _ _ _ _ _ (r0.below bel) bel.size (by omega)).mono ?_
  rintro e u12 ⟨AZ0, nZ0, cZ0, rfl, Z0, hb12, qZ0⟩
  have bel := bel_step bel hb12
  have sz12 := hb12.size
  have Wr := Wr.go hb12
  have Gr := Gr.go hb12
  have Z00 := Z0
  have eZ0 : nZ0 ≤ 1048576 := by have := Z0.len; have := r0.len; omega
  go_wp2_with fail
  refine (implPlaneLeast_c _ _ _ _ _ _ _ Z0.rd eZ0).mono ?_
  rintro e u13 ⟨AHr, nHr, cHr, rfl, Hr, hb13, qHr⟩
  have bel := bel_step bel hb13
  have sz13 := hb13.size
  have Wr := Wr.go hb13
  have Gr := Gr.go hb13
  have Z0 := Z0.go hb13
  have Hr0 := Hr
  go_wp2_with fail
  refine (eqIntS_c _ _ _ _ _ _ _ _ _ _ Hr.rd Wr.rd).mono ?_
  rintro e u14 ⟨rfl, hb14⟩
  have bel := bel_step bel hb14
  have sz14 := hb14.size
  have Wr := Wr.go hb14
  have Gr := Gr.go hb14
  have Hr := Hr.go hb14
  go_wp2_with fail
  refine (heldIntS_c _ _ _ _ _ _ Gr.rd (by omega) (by omega) (by omega)).mono ?_
  rintro e u15 ⟨rfl, hb15⟩
  have bel := bel_step bel hb15
  have sz15 := hb15.size
  have Wr := Wr.go hb15
  have Gr := Gr.go hb15
  have Hr := Hr.go hb15
  go_wp2_with fail
  go_ret
  exact ⟨rfl, bel⟩
theorem specIsOnCurve_c (A : Option Addr) (n c : Nat) (l : List Trm) (x y : Int) (w : World) (h : RdT w w.heap.size A n l) (_hn : n ≤ 1048576) :
    Calls Try.prog 37 #[.slice A n c, .int .i64 x, .int .i64 y] w fun e w' => e = .returned (.tuple #[.bool (pIsOnCurve l x y).1, .bool (pIsOnCurve l x y).2]) ∧ Below w.heap.size w w' := by
  cases ha : askedT l x y
  · have H : Hid (pIsOnCurve l x y = (false, false)) := Lib.hid (by rw [pIsOnCurve, ha]; rfl)
    have HA := Lib.hid ha
    clear ha
    go_enter Try.func37, Try.ntmps37
    go_wp2_with fail
    refine (plAsked_c _ _ _ _ _ _ _ h).mono ?_; rw [HA.out]; rintro e w1 ⟨rfl, hb⟩
    go_wp2_with fail
    go_ret2
    exact ⟨by rw [H.out]; rfl, hb⟩
  · have H : Hid (pIsOnCurve l x y = (decide (1 < (places (valsT l x y l.length) (least (valsT l x y l.length))).length), true)) := Lib.hid (by rw [pIsOnCurve, ha]; rfl)
    obtain ⟨hp, hx, hy⟩ := asked_partsT ha
    have HP := Lib.hid hp
    have HX := Lib.hid hx
    have HY := Lib.hid hy
    have HA := Lib.hid ha
    clear ha hp hx hy
    go_enter Try.func37, Try.ntmps37
    go_wp2_with fail
    refine (plAsked_c _ _ _ _ _ _ _ h).mono ?_; rw [HA.out]; rintro e w1 ⟨rfl, hb⟩
    go_wp2_with fail
    refine (plValues_c _ _ _ _ _ _ _ _ (h.go hb (Nat.le_refl _)) hb.size HP.out HX.out HY.out).mono ?_; rintro e w2 ⟨A1, n1, c1, rfl, own, hb2, hn1⟩
    go_wp2_with fail
    refine (nuPlaces_c _ _ _ _ _ _ own.rd (Nat.le_refl _) (by omega)).mono ?_; rintro e w3 ⟨A2, n2, c2, rfl, own2, hb3, hn2⟩
    have HL := Lib.hid own2.len
    go_wp2_with fail
    go_ret2
    exact ⟨by rw [H.out, HL.out]; exact retBB (by simp; omega) rfl, bel_step (bel_step hb hb2) hb3⟩
theorem implIsOnCurve_c (A : Option Addr) (n c : Nat) (l : List Trm) (x y : Int) (w : World) (h : RdT w w.heap.size A n l) (_hn : n ≤ 1048576) :
    Calls Try.prog 38 #[.slice A n c, .int .i64 x, .int .i64 y] w fun e w' => e = .returned (.tuple #[.bool (pIsOnCurve l x y).1, .bool (pIsOnCurve l x y).2]) ∧ Below w.heap.size w w' := by
  have H : Hid (pIsOnCurve l x y = (decide (1 < (pPlaneLeast l x y).1.length), (pPlaneLeast l x y).2)) := Lib.hid (by
    unfold pIsOnCurve pPlaneLeast
    split <;> rfl)
  go_enter Try.func38, Try.ntmps38
  go_wp2_with fail
  refine (implPlaneLeast_c _ _ _ _ _ _ _ h _hn).mono ?_; rintro e w1 ⟨A1, n1, c1, rfl, own, hb, hn1⟩
  have HL := Lib.hid own.len
  go_wp2_with fail
  go_ret2
  exact ⟨by rw [H.out, HL.out]; exact retBB (by simp; omega) rfl, hb⟩
theorem walk_FnExactIsOnCurve (A0 : Option Addr) (n0 c0 : Nat) (z0 : List Trm) (a1 : Int) (a2 : Int) (w : World) (r0 : RdT w w.heap.size A0 n0 z0) (w1 : (Lit.int .i64 a1).wf = true) (w2 : (Lit.int .i64 a2).wf = true) :
  Calls Try.prog 9 #[.slice A0 n0 c0, .int .i64 a1, .int .i64 a2] w fun e w' => e = .returned (.bool true) ∧ Below w.heap.size w w' := by
  have _w := w1
  have _w := w2
  have l0 := r0.le
  by_cases s0 : (n0 : Int) ≤ 1048576
  rotate_left
  · go_enter Try.func9, Try.ntmps9
    go_wp2_with fail
    refine (szTermS_no _ _ _ _ _ (by omega) (by omega) (by omega)).mono ?_; rintro e w' ⟨rfl, rfl⟩
    go_wp2_with fail
    go_ret
    exact ⟨rfl, Below.refl _ _⟩
  go_enter Try.func9, Try.ntmps9
  have bel : Below w.heap.size w w := Below.refl _ _
  go_wp2_with fail
  refine (szTermS_yes _ _ _ _ _ (by omega) (by omega)).mono ?_; rintro e w' ⟨rfl, rfl⟩
  go_wp2_with fail
  refine (toTermS_c _ _ _ _ _ _ (r0.below bel) bel.size (by omega)).mono ?_
  rintro e u1 ⟨AT0, nT0, cT0, rfl, T0, hb1, qT0⟩
  have bel := bel_step bel hb1
  have sz1 := hb1.size
  have T00 := T0
  have eT0 : nT0 ≤ 1048576 := by have := T0.len; have := r0.len; omega
  go_wp2_with fail
  refine (specIsOnCurve_c _ _ _ _ _ _ _ T0.rd eT0).mono ?_
  rintro e u2 ⟨rfl, hb2⟩
  have bel := bel_step bel hb2
  have sz2 := hb2.size
  have T0 := T0.go hb2
  go_wp2_with fail
  refine (toTermS_c _ _ _ _ _ _ (r0.below bel) bel.size (by omega)).mono ?_
  rintro e u3 ⟨AX0, nX0, cX0, rfl, X0, hb3, qX0⟩
  have bel := bel_step bel hb3
  have sz3 := hb3.size
  have X00 := X0
  have eX0 : nX0 ≤ 1048576 := by have := X0.len; have := r0.len; omega
  go_wp2_with fail
  refine (implIsOnCurve_c _ _ _ _ _ _ _ X0.rd eX0).mono ?_
  rintro e u4 ⟨rfl, hb4⟩
  have bel := bel_step bel hb4
  have sz4 := hb4.size
  have X0 := X0.go hb4
  go_wp2_with fail
  refine (toTermS_c _ _ _ _ _ _ (r0.below bel) bel.size (by omega)).mono ?_
  rintro e u5 ⟨AY0, nY0, cY0, rfl, Y0, hb5, qY0⟩
  have bel := bel_step bel hb5
  have sz5 := hb5.size
  have X0 := X0.go hb5
  have Y00 := Y0
  have eY0 : nY0 ≤ 1048576 := by have := Y0.len; have := r0.len; omega
  go_wp2_with fail
  refine (eqTermS_c _ _ _ _ _ _ _ _ _ _ X0.rd Y0.rd (Nat.le_refl _) (Nat.le_refl _)).mono ?_
  rintro e u6 ⟨rfl, hb6⟩
  have bel := bel_step bel hb6
  have sz6 := hb6.size
  have X0 := X0.go hb6
  have Y0 := Y0.go hb6
  go_wp2_with fail
  go_ret
  exact ⟨rfl, bel⟩
end Go.Proofs.Ytfamemjlhgkneaa
