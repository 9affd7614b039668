/- The laws on lists of numbers: both packages' functions against one plain function, and the walk of each law. -/
import Derived.Test.YtmpeniplngfndaaList
import Derived.Test.YtmpeniplngfndaaMem
namespace Go.Proofs.Ytmpeniplngfndaa
open Go.RowKit
theorem specTropSumOf_c (A : Option Addr) (n c : Nat) (zs : List Int) (w : World) (h : Rd w w.heap.size A n zs) (_hn : n ≤ 1048576) :
    Calls Try.prog 28 #[.slice A n c] w fun e w' => e = .returned (.tuple #[.int .i64 (pTropSumOf zs).1, .bool (pTropSumOf zs).2]) ∧ Below w.heap.size w w' := by
  cases hp : isList zs
  all_goals
    have HP := Lib.hid hp
    have H : Hid (pTropSumOf zs = if isList zs then (least zs, true) else (0, false)) := Lib.hid rfl
    rw [hp] at H
    clear hp
    go_enter Try.func28, Try.ntmps28
    go_wp2_with (first
      | (go_at_call 54; refine (nuList_c _ _ _ _ _ _ h).mono ?_; rw [HP.out]; rintro e w' ⟨rfl, rfl⟩)
      | (go_at_call 55; refine (nuSum_c _ _ _ _ _ _ h).mono ?_; rintro e w' ⟨rfl, rfl⟩))
    go_ret2
    exact ⟨by rw [H.out]; rfl, Below.refl _ _⟩
theorem implTropSumOf_c (A : Option Addr) (n c : Nat) (zs : List Int) (w : World) (h : Rd w w.heap.size A n zs) (_hn : n ≤ 1048576) :
    Calls Try.prog 30 #[.slice A n c] w fun e w' => e = .returned (.tuple #[.int .i64 (pTropSumOf zs).1, .bool (pTropSumOf zs).2]) ∧ Below w.heap.size w w' := by
  cases hp : isList zs
  all_goals
    have HP := Lib.hid hp
    have H : Hid (pTropSumOf zs = if isList zs then (least zs, true) else (0, false)) := Lib.hid rfl
    rw [hp] at H
    clear hp
    go_enter Try.func30, Try.ntmps30
    go_wp2_with (first
      | (go_at_call 56; refine (isList_c _ _ _ _ _ _ h).mono ?_; rw [HP.out]; rintro e w' ⟨rfl, rfl⟩)
      | (go_at_call 57; refine (sumOf_c _ _ _ _ _ _ h).mono ?_; rintro e w' ⟨rfl, rfl⟩))
    go_ret2
    exact ⟨by rw [H.out]; rfl, Below.refl _ _⟩
theorem walk_FnExactTropSumOf (A0 : Option Addr) (n0 c0 : Nat) (z0 : List Int) (w : World) (r0 : Rd w w.heap.size A0 n0 z0) :
  Calls Try.prog 10 #[.slice A0 n0 c0] w fun e w' => e = .returned (.bool true) ∧ Below w.heap.size w w' := by
  have l0 := r0.le
  by_cases s0 : n0 ≤ 1048576
  rotate_left
  · go_enter Try.func10, Try.ntmps10
    go_wp2_with fail
    go_ret
    exact ⟨rfl, Below.refl _ _⟩
  go_enter Try.func10, Try.ntmps10
  have bel : Below w.heap.size w w := Below.refl _ _
  go_wp2_with fail
  refine (toIntS_c _ _ _ _ _ _ (r0.below bel) bel.size (by omega)).mono ?_
  rintro e u1 ⟨AT0, nT0, cT0, rfl, T0, hb1, qT0⟩
  have bel := bel_step bel hb1
  have sz1 := hb1.size
  have T00 := T0
  have eT0 : nT0 ≤ 1048576 := by have := T0.len; have := r0.len; omega
  go_wp2_with fail
  refine (specTropSumOf_c _ _ _ _ _ T0.rd eT0).mono ?_
  rintro e u2 ⟨rfl, hb2⟩
  have bel := bel_step bel hb2
  have sz2 := hb2.size
  have T0 := T0.go hb2
  go_wp2_with fail
  refine (toIntS_c _ _ _ _ _ _ (r0.below bel) bel.size (by omega)).mono ?_
  rintro e u3 ⟨AX0, nX0, cX0, rfl, X0, hb3, qX0⟩
  have bel := bel_step bel hb3
  have sz3 := hb3.size
  have X00 := X0
  have eX0 : nX0 ≤ 1048576 := by have := X0.len; have := r0.len; omega
  go_wp2_with fail
  refine (implTropSumOf_c _ _ _ _ _ X0.rd eX0).mono ?_
  rintro e u4 ⟨rfl, hb4⟩
  have bel := bel_step bel hb4
  have sz4 := hb4.size
  have X0 := X0.go hb4
  go_wp2_with fail
  refine (toIntS_c _ _ _ _ _ _ (r0.below bel) bel.size (by omega)).mono ?_
  rintro e u5 ⟨AY0, nY0, cY0, rfl, Y0, hb5, qY0⟩
  have bel := bel_step bel hb5
  have sz5 := hb5.size
  have X0 := X0.go hb5
  have Y00 := Y0
  have eY0 : nY0 ≤ 1048576 := by have := Y0.len; have := r0.len; omega
  go_wp2_with fail
  refine (eqIntS_c _ _ _ _ _ _ _ _ _ _ X0.rd Y0.rd).mono ?_
  rintro e u6 ⟨rfl, hb6⟩
  have bel := bel_step bel hb6
  have sz6 := hb6.size
  have X0 := X0.go hb6
  have Y0 := Y0.go hb6
  go_wp2_with fail
  go_ret
  exact ⟨rfl, bel⟩
theorem specDoesVanish_c (A : Option Addr) (n c : Nat) (zs : List Int) (w : World) (h : Rd w w.heap.size A n zs) (hn : n ≤ 1048576) :
    Calls Try.prog 32 #[.slice A n c] w fun e w' => e = .returned (.tuple #[.bool (pDoesVanish zs).1, .bool (pDoesVanish zs).2]) ∧ Below w.heap.size w w' := by
  cases hp : isList zs
  · have HP := Lib.hid hp
    have H : Hid (pDoesVanish zs = (false, false)) := Lib.hid (by rw [pDoesVanish, hp]; rfl)
    clear hp
    go_enter Try.func32, Try.ntmps32
    go_wp2_with (first
      | (go_at_call 54; refine (nuList_c _ _ _ _ _ _ h).mono ?_; rw [HP.out]; rintro e w' ⟨rfl, rfl⟩))
    go_ret2
    exact ⟨by rw [H.out]; rfl, Below.refl _ _⟩
  · have HP := Lib.hid hp
    have H : Hid (pDoesVanish zs = (pVan zs, true)) := Lib.hid (by rw [pDoesVanish, hp]; rfl)
    clear hp
    go_enter Try.func32, Try.ntmps32
    go_wp2_with (first
      | (go_at_call 54; refine (nuList_c _ _ _ _ _ _ h).mono ?_; rw [HP.out]; rintro e w' ⟨rfl, rfl⟩)
      | (go_at_call 58; refine (nuVanish_c _ _ _ _ _ _ h (Nat.le_refl _) (by omega)).mono ?_; rintro e w' ⟨rfl, hb⟩))
    go_ret2
    exact ⟨by rw [H.out]; rfl, hb⟩
theorem implDoesVanish_c (A : Option Addr) (n c : Nat) (zs : List Int) (w : World) (h : Rd w w.heap.size A n zs) (hn : n ≤ 1048576) :
    Calls Try.prog 33 #[.slice A n c] w fun e w' => e = .returned (.tuple #[.bool (pDoesVanish zs).1, .bool (pDoesVanish zs).2]) ∧ Below w.heap.size w w' := by
  cases hp : isList zs
  · have HP := Lib.hid hp
    have H : Hid (pDoesVanish zs = (false, false)) := Lib.hid (by rw [pDoesVanish, hp]; rfl)
    clear hp
    go_enter Try.func33, Try.ntmps33
    go_wp2_with (first
      | (go_at_call 56; refine (isList_c _ _ _ _ _ _ h).mono ?_; rw [HP.out]; rintro e w' ⟨rfl, rfl⟩))
    go_ret2
    exact ⟨by rw [H.out]; rfl, Below.refl _ _⟩
  · have HP := Lib.hid hp
    have H : Hid (pDoesVanish zs = (pVan zs, true)) := Lib.hid (by rw [pDoesVanish, hp]; rfl)
    clear hp
    go_enter Try.func33, Try.ntmps33
    go_wp2_with (first
      | (go_at_call 56; refine (isList_c _ _ _ _ _ _ h).mono ?_; rw [HP.out]; rintro e w' ⟨rfl, rfl⟩)
      | (go_at_call 59; refine (vanishes_c _ _ _ _ _ _ h (Nat.le_refl _) (by omega)).mono ?_; rintro e w' ⟨rfl, hb⟩))
    go_ret2
    exact ⟨by rw [H.out]; rfl, hb⟩
theorem walk_FnExactDoesVanish (A0 : Option Addr) (n0 c0 : Nat) (z0 : List Int) (w : World) (r0 : Rd w w.heap.size A0 n0 z0) :
  Calls Try.prog 11 #[.slice A0 n0 c0] w fun e w' => e = .returned (.bool true) ∧ Below w.heap.size w w' := by
  have l0 := r0.le
  by_cases s0 : n0 ≤ 1048576
  rotate_left
  · go_enter Try.func11, Try.ntmps11
    go_wp2_with fail
    go_ret
    exact ⟨rfl, Below.refl _ _⟩
  go_enter Try.func11, Try.ntmps11
  have bel : Below w.heap.size w w := Below.refl _ _
  go_wp2_with fail
  refine (toIntS_c _ _ _ _ _ _ (r0.below bel) bel.size (by omega)).mono ?_
  rintro e u1 ⟨AT0, nT0, cT0, rfl, T0, hb1, qT0⟩
  have bel := bel_step bel hb1
  have sz1 := hb1.size
  have T00 := T0
  have eT0 : nT0 ≤ 1048576 := by have := T0.len; have := r0.len; omega
  go_wp2_with fail
  refine (specDoesVanish_c _ _ _ _ _ T0.rd eT0).mono ?_
  rintro e u2 ⟨rfl, hb2⟩
  have bel := bel_step bel hb2
  have sz2 := hb2.size
  have T0 := T0.go hb2
  go_wp2_with fail
  refine (toIntS_c _ _ _ _ _ _ (r0.below bel) bel.size (by omega)).mono ?_
  rintro e u3 ⟨AX0, nX0, cX0, rfl, X0, hb3, qX0⟩
  have bel := bel_step bel hb3
  have sz3 := hb3.size
  have X00 := X0
  have eX0 : nX0 ≤ 1048576 := by have := X0.len; have := r0.len; omega
  go_wp2_with fail
  refine (implDoesVanish_c _ _ _ _ _ X0.rd eX0).mono ?_
  rintro e u4 ⟨rfl, hb4⟩
  have bel := bel_step bel hb4
  have sz4 := hb4.size
  have X0 := X0.go hb4
  go_wp2_with fail
  refine (toIntS_c _ _ _ _ _ _ (r0.below bel) bel.size (by omega)).mono ?_
  rintro e u5 ⟨AY0, nY0, cY0, rfl, Y0, hb5, qY0⟩
  have bel := bel_step bel hb5
  have sz5 := hb5.size
  have X0 := X0.go hb5
  have Y00 := Y0
  have eY0 : nY0 ≤ 1048576 := by have := Y0.len; have := r0.len; omega
  go_wp2_with fail
  refine (eqIntS_c _ _ _ _ _ _ _ _ _ _ X0.rd Y0.rd).mono ?_
  rintro e u6 ⟨rfl, hb6⟩
  have bel := bel_step bel hb6
  have sz6 := hb6.size
  have X0 := X0.go hb6
  have Y0 := Y0.go hb6
  go_wp2_with fail
  go_ret
  exact ⟨rfl, bel⟩
theorem specLeastPlaces_c (A : Option Addr) (n c : Nat) (zs : List Int) (w : World) (h : Rd w w.heap.size A n zs) (hn : n ≤ 1048576) :
    Calls Try.prog 36 #[.slice A n c] w (RetOwnB 3 (pLeastPlaces zs).1 (pLeastPlaces zs).2 w) := by
  cases hp : isList zs
  · have HP := Lib.hid hp
    have H : Hid (pLeastPlaces zs = ([], false)) := Lib.hid (by rw [pLeastPlaces, hp]; rfl)
    clear hp
    go_enter Try.func36, Try.ntmps36
    go_wp2_with (go_at_call 54; refine (nuList_c _ _ _ _ _ _ h).mono ?_; rw [HP.out]; rintro e w' ⟨rfl, rfl⟩)
    go_ret2
    rw [H.out]
    exact retOwnB_mk (Own.nil _ _ _) (Below.refl _ _) (by omega)
  · have HP := Lib.hid hp
    have H : Hid (pLeastPlaces zs = (places zs (least zs), true)) := Lib.hid (by rw [pLeastPlaces, hp]; rfl)
    clear hp
    go_enter Try.func36, Try.ntmps36
    go_wp2_with (first
      | (go_at_call 54; refine (nuList_c _ _ _ _ _ _ h).mono ?_; rw [HP.out]; rintro e w' ⟨rfl, rfl⟩)
      | (go_at_call 62; refine (nuPlaces_c _ _ _ _ _ _ h (Nat.le_refl _) (by omega)).mono ?_; rintro e w' ⟨A1, n1, c1, rfl, hown, hb, hn1⟩))
    go_ret2
    rw [H.out]
    exact retOwnB_mk hown hb hn1
theorem implLeastPlaces_c (A : Option Addr) (n c : Nat) (zs : List Int) (w : World) (h : Rd w w.heap.size A n zs) (hn : n ≤ 1048576) :
    Calls Try.prog 37 #[.slice A n c] w (RetOwnB 3 (pLeastPlaces zs).1 (pLeastPlaces zs).2 w) := by
  cases hp : isList zs
  · have HP := Lib.hid hp
    have H : Hid (pLeastPlaces zs = ([], false)) := Lib.hid (by rw [pLeastPlaces, hp]; rfl)
    clear hp
    go_enter Try.func37, Try.ntmps37
    go_wp2_with (go_at_call 56; refine (isList_c _ _ _ _ _ _ h).mono ?_; rw [HP.out]; rintro e w' ⟨rfl, rfl⟩)
    go_ret2
    rw [H.out]
    exact retOwnB_mk (Own.nil _ _ _) (Below.refl _ _) (by omega)
  · have HP := Lib.hid hp
    have H : Hid (pLeastPlaces zs = (places zs (least zs), true)) := Lib.hid (by rw [pLeastPlaces, hp]; rfl)
    clear hp
    go_enter Try.func37, Try.ntmps37
    go_wp2_with (first
      | (go_at_call 56; refine (isList_c _ _ _ _ _ _ h).mono ?_; rw [HP.out]; rintro e w' ⟨rfl, rfl⟩)
      | (go_at_call 57; refine (sumOf_c _ _ _ _ _ _ h).mono ?_; rintro e w' ⟨rfl, rfl⟩)
      | (go_at_call 63; refine (placesOf_c _ _ _ _ _ _ _ h (Nat.le_refl _) (by omega)).mono ?_; rintro e w' ⟨A1, n1, c1, rfl, hown, hb, hn1⟩))
    go_ret2
    rw [H.out]
    exact retOwnB_mk hown hb hn1
theorem walk_FnExactLeastPlaces (A0 : Option Addr) (n0 c0 : Nat) (z0 : List Int) (w : World) (r0 : Rd w w.heap.size A0 n0 z0) :
  Calls Try.prog 13 #[.slice A0 n0 c0] w fun e w' => e = .returned (.bool true) ∧ Below w.heap.size w w' := by
  have l0 := r0.le
  by_cases s0 : n0 ≤ 1048576
  rotate_left
  · go_enter Try.func13, Try.ntmps13
    go_wp2_with fail
    go_ret
    exact ⟨rfl, Below.refl _ _⟩
  go_enter Try.func13, Try.ntmps13
  have bel : Below w.heap.size w w := Below.refl _ _
  go_wp2_with fail
  refine (toIntS_c _ _ _ _ _ _ (r0.below bel) bel.size (by omega)).mono ?_
  rintro e u1 ⟨AT0, nT0, cT0, rfl, T0, hb1, qT0⟩
  have bel := bel_step bel hb1
  have sz1 := hb1.size
  have T00 := T0
  have eT0 : nT0 ≤ 1048576 := by have := T0.len; have := r0.len; omega
  go_wp2_with fail
  refine (specLeastPlaces_c _ _ _ _ _ T0.rd eT0).mono ?_
  rintro e u2 ⟨AWr, nWr, cWr, rfl, Wr, hb2, qWr⟩
  have bel := bel_step bel hb2
  have sz2 := hb2.size
  have T0 := T0.go hb2
  have Wr0 := Wr
  go_wp2_with fail
  refine (toIntS_c _ _ _ _ _ _ (r0.below bel) bel.size (by omega)).mono ?_
  rintro e u3 ⟨AX0, nX0, cX0, rfl, X0, hb3, qX0⟩
  have bel := bel_step bel hb3
  have sz3 := hb3.size
  have Wr := Wr.go hb3
  have X00 := X0
  have eX0 : nX0 ≤ 1048576 := by have := X0.len; have := r0.len; omega
  go_wp2_with fail
  refine (implLeastPlaces_c _ _ _ _ _ X0.rd eX0).mono ?_
  rintro e u4 ⟨AGr, nGr, cGr, rfl, Gr, hb4, qGr⟩
  have bel := bel_step bel hb4
  have sz4 := hb4.size
  have Wr := Wr.go hb4
  have X0 := X0.go hb4
  have Gr0 := Gr
  go_wp2_with fail
  refine (eqIntS_c _ _ _ _ _ _ _ _ _ _ Gr.rd Wr.rd).mono ?_
  rintro e u5 ⟨rfl, hb5⟩
  have bel := bel_step bel hb5
  have sz5 := hb5.size
  have Wr := Wr.go hb5
  have X0 := X0.go hb5
  have Gr := Gr.go hb5
  go_wp2_with fail
  refine (toIntS_c _ _ _ _ _ _ (r0.below bel) bel.size (by omega)).mono ?_
  rintro e u6 ⟨AY0, nY0, cY0, rfl, Y0, hb6, qY0⟩
  have bel := bel_step bel hb6
  have sz6 := hb6.size
  have Wr := Wr.go hb6
  have X0 := X0.go hb6
  have Gr := Gr.go hb6
  have Y00 := Y0
  have eY0 : nY0 ≤ 1048576 := by have := Y0.len; have := r0.len; omega
  go_wp2_with fail
  refine (eqIntS_c _ _ _ _ _ _ _ _ _ _ X0.rd Y0.rd).mono ?_
  rintro e u7 ⟨rfl, hb7⟩
  have bel := bel_step bel hb7
  have sz7 := hb7.size
  have Wr := Wr.go hb7
  have X0 := X0.go hb7
  have Gr := Gr.go hb7
  have Y0 := Y0.go hb7
  go_wp2_with fail
  refine (markIntS_c _ _ _ _ _ _ _ X0 (by omega) (by omega) (by omega)).mono ?_
  rintro e u8 ⟨rfl, X0, hg8⟩
  have bel := bel.grown hg8 bel.size fun g hg => by have := (X00.lt g hg).1; omega
  have sz8 := hg8.size
  have Wr := Wr.kept hg8 (own_ne Wr0 X00 (by omega))
  have Gr := Gr.kept hg8 (own_ne' X00 Gr0 (by omega))
  go_wp2_with fail
  refine (eqIntS_c _ _ _ _ _ _ _ _ _ _ Gr.rd Wr.rd).mono ?_
  rintro e u9 ⟨rfl, hb9⟩
  have bel := bel_step bel hb9
  have sz9 := hb9.size
  have Wr := Wr.go hb9
  have X0 := X0.go hb9
  have Gr := Gr.go hb9
  go_wp2_with fail
  refine (markIntS_c _ _ _ _ _ _ _ Gr (by omega) (by omega) (by omega)).mono ?_
  rintro e u10 ⟨rfl, Gr, hg10⟩
  have bel := bel.grown hg10 bel.size fun g hg => by have := (Gr0.lt g hg).1; omega
  have sz10 := hg10.size
  have Wr := Wr.kept hg10 (own_ne Wr0 Gr0 (by omega))
  go_wp2_with fail
  refine (heldIntS_c _ _ _ _ _ _ Gr.rd (by omega) (by omega) (by omega)).mono ?_
  rintro e u11 ⟨rfl, hb11⟩
  have bel := bel_step bel hb11
  have sz11 := hb11.size
  have Wr := Wr.go hb11
  have Gr := Gr.go hb11
  go_wp2_with fail
  refine (toIntS_c _ _ _ _ _ _ (r0.below bel) bel.size (by omega)).mono ?_
  rintro e u12 ⟨AZ0, nZ0, cZ0, rfl, Z0, hb12, qZ0⟩
  have bel := bel_step bel hb12
  have sz12 := hb12.size
  have Wr := Wr.go hb12
  have Gr := Gr.go hb12
  have Z00 := Z0
  have eZ0 : nZ0 ≤ 1048576 := by have := Z0.len; have := r0.len; omega
  go_wp2_with fail
  refine (implLeastPlaces_c _ _ _ _ _ Z0.rd eZ0).mono ?_
  rintro e u13 ⟨AHr, nHr, cHr, rfl, Hr, hb13, qHr⟩
  have bel := bel_step bel hb13
  have sz13 := hb13.size
  have Wr := Wr.go hb13
  have Gr := Gr.go hb13
  have Z0 := Z0.go hb13
  have Hr0 := Hr
  go_wp2_with fail
  refine (eqIntS_c _ _ _ _ _ _ _ _ _ _ Hr.rd Wr.rd).mono ?_
  rintro e u14 ⟨rfl, hb14⟩
  have bel := bel_step bel hb14
  have sz14 := hb14.size
  have Wr := Wr.go hb14
  have Gr := Gr.go hb14
  have Hr := Hr.go hb14
  go_wp2_with fail
  refine (heldIntS_c _ _ _ _ _ _ Gr.rd (by omega) (by omega) (by omega)).mono ?_
  rintro e u15 ⟨rfl, hb15⟩
  have bel := bel_step bel hb15
  have sz15 := hb15.size
  have Wr := Wr.go hb15
  have Gr := Gr.go hb15
  have Hr := Hr.go hb15
  go_wp2_with fail
  go_ret
  exact ⟨rfl, bel⟩
theorem pDot_no {xs ys : List Int} (h : (isList xs && isList ys && xs.length == ys.length) = false) : pTropDot xs ys = (0, false) := by rw [pTropDot, h]; rfl
theorem pDot_yes {xs ys : List Int} (h1 : isList xs = true) (h2 : isList ys = true) (h3 : xs.length = ys.length) : pTropDot xs ys = told (dotTo xs ys xs.length) := by
  rw [pTropDot, h1, h2, h3]; simp
theorem specTropDot_c (A : Option Addr) (n c : Nat) (xs : List Int) (A' : Option Addr) (n' c' : Nat) (ys : List Int) (w : World) (h : Rd w w.heap.size A n xs) (_hn : n ≤ 1048576) (h' : Rd w w.heap.size A' n' ys) (_hn' : n' ≤ 1048576) :
    Calls Try.prog 34 #[.slice A n c, .slice A' n' c'] w fun e w' => e = .returned (.tuple #[.int .i64 (pTropDot xs ys).1, .bool (pTropDot xs ys).2]) ∧ Below w.heap.size w w' := by
  have hm := h.le
  have hm' := h'.le
  cases hp : isList xs <;> cases hq : isList ys
  case true.true =>
    by_cases he : n = n'
    · subst he
      have H := Lib.hid (pDot_yes hp hq (h.len.trans h'.len.symm))
      have HP := Lib.hid hp
      have HQ := Lib.hid hq
      have HA := Lib.hid (isList_all hp)
      have HB := Lib.hid (isList_all hq)
      clear hp hq
      go_enter Try.func34, Try.ntmps34
      go_wp2_with fail
      refine (nuList_c _ _ _ _ _ _ h).mono ?_
      rw [HP.out]; rintro e w' ⟨rfl, rfl⟩
      go_wp2_with fail
      refine (nuList_c _ _ _ _ _ _ h').mono ?_
      rw [HQ.out]; rintro e w' ⟨rfl, rfl⟩
      go_wp2_with (first
        | (go_at_call 60; refine (nuDot_c _ _ _ _ _ _ _ _ _ _ h h' HA.out HB.out).mono ?_; rintro e w' ⟨rfl, rfl⟩)
        | (go_at_call 49; refine (nuIf_c _ _).mono ?_; rintro e w' ⟨rfl, rfl⟩))
      go_ret2
      exact ⟨by rw [H.out]; rfl, Below.refl _ _⟩
    · have H := Lib.hid (pDot_no (xs := xs) (ys := ys) (by rw [hp, hq, h.len, h'.len]; simpa using he))
      have HP := Lib.hid hp
      have HQ := Lib.hid hq
      have he' : ((n : Int) != (n' : Int)) = true := by rw [bne_iff_ne]; omega
      clear hp hq
      go_enter Try.func34, Try.ntmps34
      go_wp2_with fail
      refine (nuList_c _ _ _ _ _ _ h).mono ?_
      rw [HP.out]; rintro e w' ⟨rfl, rfl⟩
      go_wp2_with fail
      refine (nuList_c _ _ _ _ _ _ h').mono ?_
      rw [HQ.out]; rintro e w' ⟨rfl, rfl⟩
      go_wp2_with fail
      go_ret2
      exact ⟨by rw [H.out]; rfl, Below.refl _ _⟩
  case true.false =>
    have H := Lib.hid (pDot_no (xs := xs) (ys := ys) (by rw [hp, hq]; rfl))
    have HP := Lib.hid hp
    have HQ := Lib.hid hq
    clear hp hq
    go_enter Try.func34, Try.ntmps34
    go_wp2_with fail
    refine (nuList_c _ _ _ _ _ _ h).mono ?_
    rw [HP.out]; rintro e w' ⟨rfl, rfl⟩
    go_wp2_with fail
    refine (nuList_c _ _ _ _ _ _ h').mono ?_
    rw [HQ.out]; rintro e w' ⟨rfl, rfl⟩
    go_wp2_with fail
    go_ret2
    exact ⟨by rw [H.out]; rfl, Below.refl _ _⟩
  all_goals
    have H := Lib.hid (pDot_no (xs := xs) (ys := ys) (by rw [hp, hq]; rfl))
    have HP := Lib.hid hp
    clear hp hq
    go_enter Try.func34, Try.ntmps34
    go_wp2_with fail
    refine (nuList_c _ _ _ _ _ _ h).mono ?_
    rw [HP.out]; rintro e w' ⟨rfl, rfl⟩
    go_wp2_with fail
    go_ret2
    exact ⟨by rw [H.out]; rfl, Below.refl _ _⟩
theorem implTropDot_c (A : Option Addr) (n c : Nat) (xs : List Int) (A' : Option Addr) (n' c' : Nat) (ys : List Int) (w : World) (h : Rd w w.heap.size A n xs) (_hn : n ≤ 1048576) (h' : Rd w w.heap.size A' n' ys) (_hn' : n' ≤ 1048576) :
    Calls Try.prog 35 #[.slice A n c, .slice A' n' c'] w fun e w' => e = .returned (.tuple #[.int .i64 (pTropDot xs ys).1, .bool (pTropDot xs ys).2]) ∧ Below w.heap.size w w' := by
  have hm := h.le
  have hm' := h'.le
  cases hp : isList xs <;> cases hq : isList ys
  case true.true =>
    by_cases he : n = n'
    · subst he
      have H := Lib.hid (pDot_yes hp hq (h.len.trans h'.len.symm))
      have HP := Lib.hid hp
      have HQ := Lib.hid hq
      have HA := Lib.hid (isList_all hp)
      have HB := Lib.hid (isList_all hq)
      clear hp hq
      go_enter Try.func35, Try.ntmps35
      go_wp2_with fail
      refine (isList_c _ _ _ _ _ _ h).mono ?_
      rw [HP.out]; rintro e w' ⟨rfl, rfl⟩
      go_wp2_with fail
      refine (isList_c _ _ _ _ _ _ h').mono ?_
      rw [HQ.out]; rintro e w' ⟨rfl, rfl⟩
      go_wp2_with (first
        | (go_at_call 61; refine (dot_c _ _ _ _ _ _ _ _ _ _ h h' HA.out HB.out).mono ?_; rintro e w' ⟨rfl, hb⟩)
        | (go_at_call 52; refine (told_c _ _).mono ?_; rintro e w' ⟨rfl, rfl⟩))
      go_ret2
      exact ⟨by rw [H.out]; rfl, hb⟩
    · have H := Lib.hid (pDot_no (xs := xs) (ys := ys) (by rw [hp, hq, h.len, h'.len]; simpa using he))
      have HP := Lib.hid hp
      have HQ := Lib.hid hq
      have he' : ((n : Int) != (n' : Int)) = true := by rw [bne_iff_ne]; omega
      clear hp hq
      go_enter Try.func35, Try.ntmps35
      go_wp2_with fail
      refine (isList_c _ _ _ _ _ _ h).mono ?_
      rw [HP.out]; rintro e w' ⟨rfl, rfl⟩
      go_wp2_with fail
      refine (isList_c _ _ _ _ _ _ h').mono ?_
      rw [HQ.out]; rintro e w' ⟨rfl, rfl⟩
      go_wp2_with fail
      go_ret2
      exact ⟨by rw [H.out]; rfl, Below.refl _ _⟩
  case true.false =>
    have H := Lib.hid (pDot_no (xs := xs) (ys := ys) (by rw [hp, hq]; rfl))
    have HP := Lib.hid hp
    have HQ := Lib.hid hq
    clear hp hq
    go_enter Try.func35, Try.ntmps35
    go_wp2_with fail
    refine (isList_c _ _ _ _ _ _ h).mono ?_
    rw [HP.out]; rintro e w' ⟨rfl, rfl⟩
    go_wp2_with fail
    refine (isList_c _ _ _ _ _ _ h').mono ?_
    rw [HQ.out]; rintro e w' ⟨rfl, rfl⟩
    go_wp2_with fail
    go_ret2
    exact ⟨by rw [H.out]; rfl, Below.refl _ _⟩
  all_goals
    have H := Lib.hid (pDot_no (xs := xs) (ys := ys) (by rw [hp, hq]; rfl))
    have HP := Lib.hid hp
    clear hp hq
    go_enter Try.func35, Try.ntmps35
    go_wp2_with fail
    refine (isList_c _ _ _ _ _ _ h).mono ?_
    rw [HP.out]; rintro e w' ⟨rfl, rfl⟩
    go_wp2_with fail
    go_ret2
    exact ⟨by rw [H.out]; rfl, Below.refl _ _⟩
theorem walk_FnExactTropDot (A0 : Option Addr) (n0 c0 : Nat) (z0 : List Int) (A1 : Option Addr) (n1 c1 : Nat) (z1 : List Int) (w : World) (r0 : Rd w w.heap.size A0 n0 z0) (r1 : Rd w w.heap.size A1 n1 z1) :
  Calls Try.prog 12 #[.slice A0 n0 c0, .slice A1 n1 c1] w fun e w' => e = .returned (.bool true) ∧ Below w.heap.size w w' := by
  have l0 := r0.le
  by_cases s0 : n0 ≤ 1048576
  rotate_left
  · go_enter Try.func12, Try.ntmps12
    go_wp2_with fail
    go_ret
    exact ⟨rfl, Below.refl _ _⟩
  have l1 := r1.le
  by_cases s1 : n1 ≤ 1048576
  rotate_left
  · go_enter Try.func12, Try.ntmps12
    go_wp2_with fail
    go_ret
    exact ⟨rfl, Below.refl _ _⟩
  go_enter Try.func12, Try.ntmps12
  have bel : Below w.heap.size w w := Below.refl _ _
  go_wp2_with fail
  refine (toIntS_c _ _ _ _ _ _ (r0.below bel) bel.size (by omega)).mono ?_
  rintro e u1 ⟨AT0, nT0, cT0, rfl, T0, hb1, qT0⟩
  have bel := bel_step bel hb1
  have sz1 := hb1.size
  have T00 := T0
  have eT0 : nT0 ≤ 1048576 := by have := T0.len; have := r0.len; omega
  go_wp2_with fail
  refine (toIntS_c _ _ _ _ _ _ (r1.below bel) bel.size (by omega)).mono ?_
  rintro e u2 ⟨AT1, nT1, cT1, rfl, T1, hb2, qT1⟩
  have bel := bel_step bel hb2
  have sz2 := hb2.size
  have T0 := T0.go hb2
  have T10 := T1
  have eT1 : nT1 ≤ 1048576 := by have := T1.len; have := r1.len; omega
  go_wp2_with fail
  refine (specTropDot_c _ _ _ _ _ _ _ _ _ T0.rd eT0 T1.rd eT1).mono ?_
  rintro e u3 ⟨rfl, hb3⟩
  have bel := bel_step bel hb3
  have sz3 := hb3.size
  have T0 := T0.go hb3
  have T1 := T1.go hb3
  go_wp2_with fail
  refine (toIntS_c _ _ _ _ _ _ (r0.below bel) bel.size (by omega)).mono ?_
  rintro e u4 ⟨AX0, nX0, cX0, rfl, X0, hb4, qX0⟩
  have bel := bel_step bel hb4
  have sz4 := hb4.size
  have X00 := X0
  have eX0 : nX0 ≤ 1048576 := by have := X0.len; have := r0.len; omega
  go_wp2_with fail
  refine (toIntS_c _ _ _ _ _ _ (r1.below bel) bel.size (by omega)).mono ?_
  rintro e u5 ⟨AX1, nX1, cX1, rfl, X1, hb5, qX1⟩
  have bel := bel_step bel hb5
  have sz5 := hb5.size
  have X0 := X0.go hb5
  have X10 := X1
  have eX1 : nX1 ≤ 1048576 := by have := X1.len; have := r1.len; omega
  go_wp2_with fail
  refine (implTropDot_c _ _ _ _ _ _ _ _ _ X0.rd eX0 X1.rd eX1).mono ?_
  rintro e u6 ⟨rfl, hb6⟩
  have bel := bel_step bel hb6
  have sz6 := hb6.size
  have X0 := X0.go hb6
  have X1 := X1.go hb6
  go_wp2_with fail
  refine (toIntS_c _ _ _ _ _ _ (r0.below bel) bel.size (by omega)).mono ?_
  rintro e u7 ⟨AY0, nY0, cY0, rfl, Y0, hb7, qY0⟩
  have bel := bel_step bel hb7
  have sz7 := hb7.size
  have X0 := X0.go hb7
  have X1 := X1.go hb7
  have Y00 := Y0
  have eY0 : nY0 ≤ 1048576 := by have := Y0.len; have := r0.len; omega
  go_wp2_with fail
  refine (eqIntS_c _ _ _ _ _ _ _ _ _ _ X0.rd Y0.rd).mono ?_
  rintro e u8 ⟨rfl, hb8⟩
  have bel := bel_step bel hb8
  have sz8 := hb8.size
  have X0 := X0.go hb8
  have X1 := X1.go hb8
  have Y0 := Y0.go hb8
  go_wp2_with fail
  refine (toIntS_c _ _ _ _ _ _ (r1.below bel) bel.size (by omega)).mono ?_
  rintro e u9 ⟨AY1, nY1, cY1, rfl, Y1, hb9, qY1⟩
  have bel := bel_step bel hb9
  have sz9 := hb9.size
  have X0 := X0.go hb9
  have X1 := X1.go hb9
  have Y10 := Y1
  have eY1 : nY1 ≤ 1048576 := by have := Y1.len; have := r1.len; omega
  go_wp2_with fail
  refine (eqIntS_c _ _ _ _ _ _ _ _ _ _ X1.rd Y1.rd).mono ?_
  rintro e u10 ⟨rfl, hb10⟩
  have bel := bel_step bel hb10
  have sz10 := hb10.size
  have X0 := X0.go hb10
  have X1 := X1.go hb10
  have Y1 := Y1.go hb10
  go_wp2_with fail
  go_ret
  exact ⟨rfl, bel⟩
theorem specShiftList_c (A : Option Addr) (n c : Nat) (zs : List Int) (d : Int) (w : World) (h : Rd w w.heap.size A n zs) (hn : n ≤ 1048576) :
    Calls Try.prog 40 #[.slice A n c, .int .i64 d] w (RetOwnB 3 (pShiftList zs d).1 (pShiftList zs d).2 w) := by
  have hm := h.le
  cases hp : isList zs <;> cases hq : isNum d <;> cases hr : (d == 1000000000)
  case true.true.false =>
    have hf : isFin d = true := by rw [isNum, hr] at hq; simpa using hq
    have bd := (isFin_iff d).1 hf
    have H : Hid (pShiftList zs d = toldList (shifted zs d)) := Lib.hid (by rw [pShiftList, hp, hf]; rfl)
    have HP := Lib.hid hp
    have HQ := Lib.hid hq
    have HA := Lib.hid (isList_all hp)
    clear hp hq hf
    go_enter Try.func40, Try.ntmps40
    go_wp2_with (first
      | (go_at_call 54; refine (nuList_c _ _ _ _ _ _ h).mono ?_; rw [HP.out]; rintro e w' ⟨rfl, rfl⟩)
      | (go_at_call 42; refine (nuGood_c _ _).mono ?_; rw [HQ.out]; rintro e w' ⟨rfl, rfl⟩)
      | (go_at_call 64; refine (nuShift_c _ _ _ _ _ _ _ h (Nat.le_refl _) (by omega) HA.out (by omega) (by omega)).mono ?_; rintro e w' ⟨A1, n1, c1, rfl, hown, hb, hn1⟩))
    go_ret2
    rw [H.out]
    exact retOwnB_mk hown hb hn1
  all_goals
    have hf : (isList zs && isFin d) = false := by
      rw [hp]
      first
        | rfl
        | (rw [isNum, hr, Bool.or_false] at hq; rw [hq]; rfl)
        | (rw [beq_iff_eq.1 hr]; rfl)
    have H : Hid (pShiftList zs d = ([], false)) := Lib.hid (by rw [pShiftList, hf]; rfl)
    have HP := Lib.hid hp
    have HQ := Lib.hid hq
    clear hp hq hf
    go_enter Try.func40, Try.ntmps40
    go_wp2_with (first
      | (go_at_call 54; refine (nuList_c _ _ _ _ _ _ h).mono ?_; rw [HP.out]; rintro e w' ⟨rfl, rfl⟩)
      | (go_at_call 42; refine (nuGood_c _ _).mono ?_; rw [HQ.out]; rintro e w' ⟨rfl, rfl⟩))
    go_ret2
    rw [H.out]
    exact retOwnB_mk (Own.nil _ _ _) (Below.refl _ _) (by omega)
theorem implShiftList_c (A : Option Addr) (n c : Nat) (zs : List Int) (d : Int) (w : World) (h : Rd w w.heap.size A n zs) (hn : n ≤ 1048576) :
    Calls Try.prog 41 #[.slice A n c, .int .i64 d] w (RetOwnB 3 (pShiftList zs d).1 (pShiftList zs d).2 w) := by
  have hm := h.le
  cases hp : isList zs <;> cases hf : isFin d
  case true.true =>
    have bd := (isFin_iff d).1 hf
    have HP := Lib.hid hp
    have HQ := Lib.hid hf
    have HA := Lib.hid (isList_all hp)
    cases hx : (shifted zs d).all isNum
    · have H : Hid (pShiftList zs d = ([], false)) := Lib.hid (by rw [pShiftList, hp, hf, toldList, hx]; rfl)
      have HX := Lib.hid hx
      clear hp hf hx
      go_enter Try.func41, Try.ntmps41
      go_wp2_with (first
        | (go_at_call 56; refine (isList_c _ _ _ _ _ _ h).mono ?_; rw [HP.out]; rintro e w' ⟨rfl, rfl⟩)
        | (go_at_call 65; refine (isFinite_c _ _).mono ?_; rw [HQ.out]; rintro e w' ⟨rfl, rfl⟩)
        | (go_at_call 67; refine (shifted_c _ _ _ _ _ _ _ h (Nat.le_refl _) (by omega) HA.out (by omega) (by omega)).mono ?_; rintro e w' ⟨A1, n1, c1, rfl, hown, hb, hn1⟩)
        | (go_at_call 66; refine (toldList_c _ _ _ _ _ _ _ HX.out hown.rd).mono ?_; rintro e w' ⟨rfl, rfl⟩))
      go_ret2
      rw [H.out]
      exact retOwnB_mk (Own.nil _ _ _) hb (by omega)
    · have H : Hid (pShiftList zs d = (shifted zs d, true)) := Lib.hid (by rw [pShiftList, hp, hf, toldList, hx]; rfl)
      have HX := Lib.hid hx
      clear hp hf hx
      go_enter Try.func41, Try.ntmps41
      go_wp2_with (first
        | (go_at_call 56; refine (isList_c _ _ _ _ _ _ h).mono ?_; rw [HP.out]; rintro e w' ⟨rfl, rfl⟩)
        | (go_at_call 65; refine (isFinite_c _ _).mono ?_; rw [HQ.out]; rintro e w' ⟨rfl, rfl⟩)
        | (go_at_call 67; refine (shifted_c _ _ _ _ _ _ _ h (Nat.le_refl _) (by omega) HA.out (by omega) (by omega)).mono ?_; rintro e w' ⟨A1, n1, c1, rfl, hown, hb, hn1⟩)
        | (go_at_call 66; refine (toldList_c _ _ _ _ _ _ _ HX.out hown.rd).mono ?_; rintro e w' ⟨rfl, rfl⟩))
      go_ret2
      rw [H.out]
      exact retOwnB_mk hown hb hn1
  all_goals
    have H : Hid (pShiftList zs d = ([], false)) := Lib.hid (by rw [pShiftList, hp, hf]; rfl)
    have HP := Lib.hid hp
    have HQ := Lib.hid hf
    clear hp hf
    go_enter Try.func41, Try.ntmps41
    go_wp2_with (first
      | (go_at_call 56; refine (isList_c _ _ _ _ _ _ h).mono ?_; rw [HP.out]; rintro e w' ⟨rfl, rfl⟩)
      | (go_at_call 65; refine (isFinite_c _ _).mono ?_; rw [HQ.out]; rintro e w' ⟨rfl, rfl⟩))
    go_ret2
    rw [H.out]
    exact retOwnB_mk (Own.nil _ _ _) (Below.refl _ _) (by omega)
theorem walk_FnExactShiftList (A0 : Option Addr) (n0 c0 : Nat) (z0 : List Int) (a1 : Int) (w : World) (r0 : Rd w w.heap.size A0 n0 z0) (w1 : (Lit.int .i64 a1).wf = true) :
  Calls Try.prog 14 #[.slice A0 n0 c0, .int .i64 a1] w fun e w' => e = .returned (.bool true) ∧ Below w.heap.size w w' := by
  have _w := w1
  have l0 := r0.le
  by_cases s0 : n0 ≤ 1048576
  rotate_left
  · go_enter Try.func14, Try.ntmps14
    go_wp2_with fail
    go_ret
    exact ⟨rfl, Below.refl _ _⟩
  go_enter Try.func14, Try.ntmps14
  have bel : Below w.heap.size w w := Below.refl _ _
  go_wp2_with fail
  refine (toIntS_c _ _ _ _ _ _ (r0.below bel) bel.size (by omega)).mono ?_
  rintro e u1 ⟨AT0, nT0, cT0, rfl, T0, hb1, qT0⟩
  have bel := bel_step bel hb1
  have sz1 := hb1.size
  have T00 := T0
  have eT0 : nT0 ≤ 1048576 := by have := T0.len; have := r0.len; omega
  go_wp2_with fail
  refine (specShiftList_c _ _ _ _ _ _ T0.rd eT0).mono ?_
  rintro e u2 ⟨AWr, nWr, cWr, rfl, Wr, hb2, qWr⟩
  have bel := bel_step bel hb2
  have sz2 := hb2.size
  have T0 := T0.go hb2
  have Wr0 := Wr
  go_wp2_with fail
  refine (toIntS_c _ _ _ _ _ _ (r0.below bel) bel.size (by omega)).mono ?_
  rintro e u3 ⟨AX0, nX0, cX0, rfl, X0, hb3, qX0⟩
  have bel := bel_step bel hb3
  have sz3 := hb3.size
  have Wr := Wr.go hb3
  have X00 := X0
  have eX0 : nX0 ≤ 1048576 := by have := X0.len; have := r0.len; omega
  go_wp2_with fail
  refine (implShiftList_c _ _ _ _ _ _ X0.rd eX0).mono ?_
  rintro e u4 ⟨AGr, nGr, cGr, rfl, Gr, hb4, qGr⟩
  have bel := bel_step bel hb4
  have sz4 := hb4.size
  have Wr := Wr.go hb4
  have X0 := X0.go hb4
  have Gr0 := Gr
  go_wp2_with fail
  refine (eqIntS_c _ _ _ _ _ _ _ _ _ _ Gr.rd Wr.rd).mono ?_
  rintro e u5 ⟨rfl, hb5⟩
  have bel := bel_step bel hb5
  have sz5 := hb5.size
  have Wr := Wr.go hb5
  have X0 := X0.go hb5
  have Gr := Gr.go hb5
  go_wp2_with fail
  refine (toIntS_c _ _ _ _ _ _ (r0.below bel) bel.size (by omega)).mono ?_
  rintro e u6 ⟨AY0, nY0, cY0, rfl, Y0, hb6, qY0⟩
  have bel := bel_step bel hb6
  have sz6 := hb6.size
  have Wr := Wr.go hb6
  have X0 := X0.go hb6
  have Gr := Gr.go hb6
  have Y00 := Y0
  have eY0 : nY0 ≤ 1048576 := by have := Y0.len; have := r0.len; omega
  go_wp2_with fail
  refine (eqIntS_c _ _ _ _ _ _ _ _ _ _ X0.rd Y0.rd).mono ?_
  rintro e u7 ⟨rfl, hb7⟩
  have bel := bel_step bel hb7
  have sz7 := hb7.size
  have Wr := Wr.go hb7
  have X0 := X0.go hb7
  have Gr := Gr.go hb7
  have Y0 := Y0.go hb7
  go_wp2_with fail
  refine (markIntS_c _ _ _ _ _ _ _ X0 (by omega) (by omega) (by omega)).mono ?_
  rintro e u8 ⟨rfl, X0, hg8⟩
  have bel := bel.grown hg8 bel.size fun g hg => by have := (X00.lt g hg).1; omega
  have sz8 := hg8.size
  have Wr := Wr.kept hg8 (own_ne Wr0 X00 (by omega))
  have Gr := Gr.kept hg8 (own_ne' X00 Gr0 (by omega))
  go_wp2_with fail
  refine (eqIntS_c _ _ _ _ _ _ _ _ _ _ Gr.rd Wr.rd).mono ?_
  rintro e u9 ⟨rfl, hb9⟩
  have bel := bel_step bel hb9
  have sz9 := hb9.size
  have Wr := Wr.go hb9
  have X0 := X0.go hb9
  have Gr := Gr.go hb9
  go_wp2_with fail
  refine (markIntS_c _ _ _ _ _ _ _ Gr (by omega) (by omega) (by omega)).mono ?_
  rintro e u10 ⟨rfl, Gr, hg10⟩
  have bel := bel.grown hg10 bel.size fun g hg => by have := (Gr0.lt g hg).1; omega
  have sz10 := hg10.size
  have Wr := Wr.kept hg10 (own_ne Wr0 Gr0 (by omega))
  go_wp2_with fail
  refine (heldIntS_c _ _ _ _ _ _ Gr.rd (by omega) (by omega) (by omega)).mono ?_
  rintro e u11 ⟨rfl, hb11⟩
  have bel := bel_step bel hb11
  have sz11 := hb11.size
  have Wr := Wr.go hb11
  have Gr := Gr.go hb11
  go_wp2_with fail
  refine (toIntS_c _ _ _ _ _ _ (r0.below bel) bel.size (by omega)).mono ?_
  rintro e u12 ⟨AZ0, nZ0, cZ0, rfl, Z0, hb12, qZ0⟩
  have bel := bel_step bel hb12
  have sz12 := hb12.size
  have Wr := Wr.go hb12
  have Gr := Gr.go hb12
  have Z00 := Z0
  have eZ0 : nZ0 ≤ 1048576 := by have := Z0.len; have := r0.len; omega
  go_wp2_with fail
  refine (implShiftList_c _ _ _ _ _ _ Z0.rd eZ0).mono ?_
  rintro e u13 ⟨AHr, nHr, cHr, rfl, Hr, hb13, qHr⟩
  have bel := bel_step bel hb13
  have sz13 := hb13.size
  have Wr := Wr.go hb13
  have Gr := Gr.go hb13
  have Z0 := Z0.go hb13
  have Hr0 := Hr
  go_wp2_with fail
  refine (eqIntS_c _ _ _ _ _ _ _ _ _ _ Hr.rd Wr.rd).mono ?_
  rintro e u14 ⟨rfl, hb14⟩
  have bel := bel_step bel hb14
  have sz14 := hb14.size
  have Wr := Wr.go hb14
  have Gr := Gr.go hb14
  have Hr := Hr.go hb14
  go_wp2_with fail
  refine (heldIntS_c _ _ _ _ _ _ Gr.rd (by omega) (by omega) (by omega)).mono ?_
  rintro e u15 ⟨rfl, hb15⟩
  have bel := bel_step bel hb15
  have sz15 := hb15.size
  have Wr := Wr.go hb15
  have Gr := Gr.go hb15
  have Hr := Hr.go hb15
  go_wp2_with fail
  go_ret
  exact ⟨rfl, bel⟩
end Go.Proofs.Ytmpeniplngfndaa
