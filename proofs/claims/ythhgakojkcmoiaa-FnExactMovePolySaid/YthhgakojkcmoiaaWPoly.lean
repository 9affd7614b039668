/- The laws on polynomials in one unknown: both packages' functions against plain ones, and the walk of each law. -/
import Derived.Test.YthhgakojkcmoiaaPoly
import Derived.Test.YthhgakojkcmoiaaMem
namespace Go.Proofs.Ythhgakojkcmoiaa
open Go.RowKit
theorem specIsPoly_c (A : Option Addr) (n c : Nat) (p : List Int) (w : World) (h : Rd w w.heap.size A n p) (_hn : n ≤ 1048576) :
    Calls Try.prog 15 #[.slice A n c] w fun e w' => e = .returned (.bool (isPol p)) ∧ Below w.heap.size w w' := by
  go_enter Try.func15, Try.ntmps15
  go_wp2_with fail
  refine (poGood_c _ _ _ _ _ _ h).mono ?_; rintro e w' ⟨rfl, rfl⟩
  go_wp2_with fail
  go_ret
  exact ⟨rfl, Below.refl _ _⟩
theorem implIsPoly_c (A : Option Addr) (n c : Nat) (p : List Int) (w : World) (h : Rd w w.heap.size A n p) (_hn : n ≤ 1048576) :
    Calls Try.prog 17 #[.slice A n c] w fun e w' => e = .returned (.bool (isPol p)) ∧ Below w.heap.size w w' := by
  go_enter Try.func17, Try.ntmps17
  go_wp2_with fail
  refine (isPoly_c _ _ _ _ _ _ h).mono ?_; rintro e w' ⟨rfl, rfl⟩
  go_wp2_with fail
  go_ret
  exact ⟨rfl, Below.refl _ _⟩
theorem walk_FnExactIsPoly (A0 : Option Addr) (n0 c0 : Nat) (z0 : List Int) (w : World) (r0 : Rd w w.heap.size A0 n0 z0) :
  Calls Try.prog 3 #[.slice A0 n0 c0] w fun e w' => e = .returned (.bool true) ∧ Below w.heap.size w w' := by
  have l0 := r0.le
  by_cases s0 : n0 ≤ 1048576
  rotate_left
  · go_enter Try.func3, Try.ntmps3
    go_wp2_with fail
    go_ret
    exact ⟨rfl, Below.refl _ _⟩
  go_enter Try.func3, Try.ntmps3
  have bel : Below w.heap.size w w := Below.refl _ _
  go_wp2_with fail
  refine (toIntS_c _ _ _ _ _ _ (r0.below bel) bel.size (by omega)).mono ?_
  rintro e u1 ⟨AT0, nT0, cT0, rfl, T0, hb1, qT0⟩
  have bel := bel_step bel hb1
  have sz1 := hb1.size
  have T00 := T0
  have eT0 : nT0 ≤ 1048576 := by have := T0.len; have := r0.len; omega
  go_wp2_with fail
  refine (specIsPoly_c _ _ _ _ _ T0.rd eT0).mono ?_
  rintro e u2 ⟨rfl, hb2⟩
  have bel := bel_step bel hb2
  have sz2 := hb2.size
  have T0 := T0.go hb2
  go_wp2_with fail
  refine (toIntS_c _ _ _ _ _ _ (r0.below bel) bel.size (by omega)).mono ?_
  rintro e u3 ⟨AX0, nX0, cX0, rfl, X0, hb3, qX0⟩
  have bel := bel_step bel hb3
  have sz3 := hb3.size
  have X00 := X0
  have eX0 : nX0 ≤ 1048576 := by have := X0.len; have := r0.len; omega
  go_wp2_with fail
  refine (implIsPoly_c _ _ _ _ _ X0.rd eX0).mono ?_
  rintro e u4 ⟨rfl, hb4⟩
  have bel := bel_step bel hb4
  have sz4 := hb4.size
  have X0 := X0.go hb4
  go_wp2_with fail
  refine (toIntS_c _ _ _ _ _ _ (r0.below bel) bel.size (by omega)).mono ?_
  rintro e u5 ⟨AY0, nY0, cY0, rfl, Y0, hb5, qY0⟩
  have bel := bel_step bel hb5
  have sz5 := hb5.size
  have X0 := X0.go hb5
  have Y00 := Y0
  have eY0 : nY0 ≤ 1048576 := by have := Y0.len; have := r0.len; omega
  go_wp2_with fail
  refine (eqIntS_c _ _ _ _ _ _ _ _ _ _ X0.rd Y0.rd).mono ?_
  rintro e u6 ⟨rfl, hb6⟩
  have bel := bel_step bel hb6
  have sz6 := hb6.size
  have X0 := X0.go hb6
  have Y0 := Y0.go hb6
  go_wp2_with fail
  go_ret
  exact ⟨rfl, bel⟩
theorem specPolyValue_c (A : Option Addr) (n c : Nat) (p : List Int) (x : Int) (w : World) (h : Rd w w.heap.size A n p) (_hn : n ≤ 1048576) :
    Calls Try.prog 25 #[.slice A n c, .int .i64 x] w fun e w' => e = .returned (.tuple #[.int .i64 (pPolyValue p x).1, .bool (pPolyValue p x).2]) ∧ Below w.heap.size w w' := by
  cases ha : asked p x
  · have H : Hid (pPolyValue p x = (0, false)) := Lib.hid (by rw [pPolyValue_asked, ha]; rfl)
    have HA := Lib.hid ha
    clear ha
    go_enter Try.func25, Try.ntmps25
    go_wp2_with fail
    refine (poAsked_c _ _ _ _ _ _ h).mono ?_; rw [HA.out]; rintro e w1 ⟨rfl, hb⟩
    go_wp2_with fail
    go_ret2
    exact ⟨by rw [H.out]; rfl, hb⟩
  · have H : Hid (pPolyValue p x = (least (vals p x), true)) := Lib.hid (by rw [pPolyValue_asked, ha]; rfl)
    obtain ⟨hp, hx⟩ := asked_parts ha
    have HA := Lib.hid ha
    clear ha
    go_enter Try.func25, Try.ntmps25
    go_wp2_with fail
    refine (poAsked_c _ _ _ _ _ _ h).mono ?_; rw [HA.out]; rintro e w1 ⟨rfl, hb⟩
    have h1 := h.go hb (Nat.le_refl _)
    go_wp2_with fail
    refine (poTerms_c _ _ _ _ _ _ _ h1 hb.size hp hx).mono ?_; rintro e w2 ⟨A1, n1, c1, rfl, hown, hb2, hn1⟩
    go_wp2_with fail
    refine (nuSum_c _ _ _ _ _ _ hown.rd).mono ?_; rintro e w3 ⟨rfl, rfl⟩
    go_wp2_with fail
    go_ret2
    exact ⟨by rw [H.out]; rfl, bel_step hb hb2⟩
theorem implPolyValue_c (A : Option Addr) (n c : Nat) (p : List Int) (x : Int) (w : World) (h : Rd w w.heap.size A n p) (_hn : n ≤ 1048576) :
    Calls Try.prog 26 #[.slice A n c, .int .i64 x] w fun e w' => e = .returned (.tuple #[.int .i64 (pPolyValue p x).1, .bool (pPolyValue p x).2]) ∧ Below w.heap.size w w' := by
  cases hp : isPol p <;> cases hx : isFin x
  case true.true =>
    have H : Hid (pPolyValue p x = told (least (vals p x))) := Lib.hid (by rw [pPolyValue, hp, hx]; rfl)
    have HP := Lib.hid hp
    have HX := Lib.hid hx
    clear hp hx
    go_enter Try.func26, Try.ntmps26
    go_wp2_with (first
      | (go_at_call 46; refine (isPoly_c _ _ _ _ _ _ h).mono ?_; rw [HP.out]; rintro e w' ⟨rfl, rfl⟩)
      | (go_at_call 54; refine (isFinite_c _ _).mono ?_; rw [HX.out]; rintro e w' ⟨rfl, rfl⟩)
      | (go_at_call 56; refine (values_c _ _ _ _ _ _ _ h (Nat.le_refl _) HP.out HX.out).mono ?_; rintro e w1 ⟨A1, n1, c1, rfl, hown, hb, hn1⟩)
      | (go_at_call 60; refine (sumOf_c _ _ _ _ _ _ hown.rd).mono ?_; rintro e w' ⟨rfl, rfl⟩)
      | (go_at_call 59; refine (told_c _ _).mono ?_; rintro e w' ⟨rfl, rfl⟩))
    go_ret2
    exact ⟨by rw [H.out]; rfl, hb⟩
  all_goals
    have H : Hid (pPolyValue p x = (0, false)) := Lib.hid (by rw [pPolyValue, hp, hx]; rfl)
    have HP := Lib.hid hp
    have HX := Lib.hid hx
    clear hp hx
    go_enter Try.func26, Try.ntmps26
    go_wp2_with (first
      | (go_at_call 46; refine (isPoly_c _ _ _ _ _ _ h).mono ?_; rw [HP.out]; rintro e w' ⟨rfl, rfl⟩)
      | (go_at_call 54; refine (isFinite_c _ _).mono ?_; rw [HX.out]; rintro e w' ⟨rfl, rfl⟩))
    go_ret2
    exact ⟨by rw [H.out]; rfl, Below.refl _ _⟩
theorem walk_FnExactPolyValue (A0 : Option Addr) (n0 c0 : Nat) (z0 : List Int) (a1 : Int) (w : World) (r0 : Rd w w.heap.size A0 n0 z0) (w1 : (Lit.int .i64 a1).wf = true) :
  Calls Try.prog 6 #[.slice A0 n0 c0, .int .i64 a1] w fun e w' => e = .returned (.bool true) ∧ Below w.heap.size w w' := by
  have _w := w1
  have l0 := r0.le
  by_cases s0 : n0 ≤ 1048576
  rotate_left
  · go_enter Try.func6, Try.ntmps6
    go_wp2_with fail
    go_ret
    exact ⟨rfl, Below.refl _ _⟩
  go_enter Try.func6, Try.ntmps6
  have bel : Below w.heap.size w w := Below.refl _ _
  go_wp2_with fail
  refine (toIntS_c _ _ _ _ _ _ (r0.below bel) bel.size (by omega)).mono ?_
  rintro e u1 ⟨AT0, nT0, cT0, rfl, T0, hb1, qT0⟩
  have bel := bel_step bel hb1
  have sz1 := hb1.size
  have T00 := T0
  have eT0 : nT0 ≤ 1048576 := by have := T0.len; have := r0.len; omega
  go_wp2_with fail
  refine (specPolyValue_c _ _ _ _ _ _ T0.rd eT0).mono ?_
  rintro e u2 ⟨rfl, hb2⟩
  have bel := bel_step bel hb2
  have sz2 := hb2.size
  have T0 := T0.go hb2
  go_wp2_with fail
  refine (toIntS_c _ _ _ _ _ _ (r0.below bel) bel.size (by omega)).mono ?_
  rintro e u3 ⟨AX0, nX0, cX0, rfl, X0, hb3, qX0⟩
  have bel := bel_step bel hb3
  have sz3 := hb3.size
  have X00 := X0
  have eX0 : nX0 ≤ 1048576 := by have := X0.len; have := r0.len; omega
  go_wp2_with fail
  refine (implPolyValue_c _ _ _ _ _ _ X0.rd eX0).mono ?_
  rintro e u4 ⟨rfl, hb4⟩
  have bel := bel_step bel hb4
  have sz4 := hb4.size
  have X0 := X0.go hb4
  go_wp2_with fail
  refine (toIntS_c _ _ _ _ _ _ (r0.below bel) bel.size (by omega)).mono ?_
  rintro e u5 ⟨AY0, nY0, cY0, rfl, Y0, hb5, qY0⟩
  have bel := bel_step bel hb5
  have sz5 := hb5.size
  have X0 := X0.go hb5
  have Y00 := Y0
  have eY0 : nY0 ≤ 1048576 := by have := Y0.len; have := r0.len; omega
  go_wp2_with fail
  refine (eqIntS_c _ _ _ _ _ _ _ _ _ _ X0.rd Y0.rd).mono ?_
  rintro e u6 ⟨rfl, hb6⟩
  have bel := bel_step bel hb6
  have sz6 := hb6.size
  have X0 := X0.go hb6
  have Y0 := Y0.go hb6
  go_wp2_with fail
  go_ret
  exact ⟨rfl, bel⟩
theorem specLeastTerms_c (A : Option Addr) (n c : Nat) (p : List Int) (x : Int) (w : World) (h : Rd w w.heap.size A n p) (_hn : n ≤ 1048576) :
    Calls Try.prog 37 #[.slice A n c, .int .i64 x] w (RetOwnB 3 (pLeastTerms p x).1 (pLeastTerms p x).2 w) := by
  cases ha : asked p x
  · have H : Hid (pLeastTerms p x = ([], false)) := Lib.hid (by rw [pLeastTerms, ha]; rfl)
    have HA := Lib.hid ha
    clear ha
    go_enter Try.func37, Try.ntmps37
    go_wp2_with fail
    refine (poAsked_c _ _ _ _ _ _ h).mono ?_; rw [HA.out]; rintro e w1 ⟨rfl, hb⟩
    go_wp2_with fail
    go_ret2
    rw [H.out]
    exact retOwnB_mk (Own.nil _ _ _) hb (by omega)
  · have H : Hid (pLeastTerms p x = (lplaces p x, true)) := Lib.hid (by rw [pLeastTerms, ha]; rfl)
    obtain ⟨hp, hx⟩ := asked_parts ha
    have HA := Lib.hid ha
    clear ha
    go_enter Try.func37, Try.ntmps37
    go_wp2_with fail
    refine (poAsked_c _ _ _ _ _ _ h).mono ?_; rw [HA.out]; rintro e w1 ⟨rfl, hb⟩
    have h1 := h.go hb (Nat.le_refl _)
    go_wp2_with fail
    refine (poTerms_c _ _ _ _ _ _ _ h1 hb.size hp hx).mono ?_; rintro e w2 ⟨A1, n1, c1, rfl, hown, hb2, hn1⟩
    go_wp2_with fail
    refine (nuPlaces_c _ _ _ _ _ _ hown.rd (Nat.le_refl _) (by omega)).mono ?_; rintro e w3 ⟨A2, n2, c2, rfl, hown2, hb3, hn2⟩
    go_wp2_with fail
    go_ret2
    rw [H.out]
    exact retOwnB_mk (hown2.more (Nat.le_trans hb.size hb2.size)) (bel_step (bel_step hb hb2) hb3) hn2
theorem implLeastTerms_c (A : Option Addr) (n c : Nat) (p : List Int) (x : Int) (w : World) (h : Rd w w.heap.size A n p) (_hn : n ≤ 1048576) :
    Calls Try.prog 38 #[.slice A n c, .int .i64 x] w (RetOwnB 3 (pLeastTerms p x).1 (pLeastTerms p x).2 w) := by
  cases ha : asked p x
  · have H : Hid (pLeastTerms p x = ([], false)) := Lib.hid (by rw [pLeastTerms, ha]; rfl)
    have HV : Hid (pPolyValue p x = (0, false)) := Lib.hid (by rw [pPolyValue_asked, ha]; rfl)
    clear ha
    go_enter Try.func38, Try.ntmps38
    go_wp2_with fail
    refine (implPolyValue_c _ _ _ _ _ _ h _hn).mono ?_; rw [HV.out]; rintro e w1 ⟨rfl, hb⟩
    go_wp2_with fail
    go_ret2
    rw [H.out]
    exact retOwnB_mk (Own.nil _ _ _) hb (by omega)
  · have H : Hid (pLeastTerms p x = (lplaces p x, true)) := Lib.hid (by rw [pLeastTerms, ha]; rfl)
    have HV : Hid (pPolyValue p x = (least (vals p x), true)) := Lib.hid (by rw [pPolyValue_asked, ha]; rfl)
    obtain ⟨hp, hx⟩ := asked_parts ha
    clear ha
    go_enter Try.func38, Try.ntmps38
    go_wp2_with fail
    refine (implPolyValue_c _ _ _ _ _ _ h _hn).mono ?_; rw [HV.out]; rintro e w1 ⟨rfl, hb⟩
    have h1 := h.go hb (Nat.le_refl _)
    go_wp2_with fail
    refine (values_c _ _ _ _ _ _ _ h1 hb.size hp hx).mono ?_; rintro e w2 ⟨A1, n1, c1, rfl, hown, hb2, hn1⟩
    go_wp2_with fail
    refine (placesOf_c _ _ _ _ _ _ _ hown.rd (Nat.le_refl _) (by omega)).mono ?_; rintro e w3 ⟨A2, n2, c2, rfl, hown2, hb3, hn2⟩
    go_wp2_with fail
    go_ret2
    rw [H.out]
    exact retOwnB_mk (hown2.more (Nat.le_trans hb.size hb2.size)) (bel_step (bel_step hb hb2) hb3) hn2
theorem walk_FnExactLeastTerms (A0 : Option Addr) (n0 c0 : Nat) (z0 : List Int) (a1 : Int) (w : World) (r0 : Rd w w.heap.size A0 n0 z0) (w1 : (Lit.int .i64 a1).wf = true) :
  Calls Try.prog 12 #[.slice A0 n0 c0, .int .i64 a1] w fun e w' => e = .returned (.bool true) ∧ Below w.heap.size w w' := by
  have _w := w1
  have l0 := r0.le
  by_cases s0 : n0 ≤ 1048576
  rotate_left
  · go_enter Try.func12, Try.ntmps12
    go_wp2_with fail
    go_ret
    exact ⟨rfl, Below.refl _ _⟩
  go_enter Try.func12, Try.ntmps12
  have bel : Below w.heap.size w w := Below.refl _ _
  go_wp2_with fail
  refine (toIntS_c _ _ _ _ _ _ (r0.below bel) bel.size (by omega)).mono ?_
  rintro e u1 ⟨AT0, nT0, cT0, rfl, T0, hb1, qT0⟩
  have bel := bel_step bel hb1
  have sz1 := hb1.size
  have T00 := T0
  have eT0 : nT0 ≤ 1048576 := by have := T0.len; have := r0.len; omega
  go_wp2_with fail
  refine (specLeastTerms_c _ _ _ _ _ _ T0.rd eT0).mono ?_
  rintro e u2 ⟨AWr, nWr, cWr, rfl, Wr, hb2, qWr⟩
  have bel := bel_step bel hb2
  have sz2 := hb2.size
  have T0 := T0.go hb2
  have Wr0 := Wr
  go_wp2_with fail
  refine (toIntS_c _ _ _ _ _ _ (r0.below bel) bel.size (by omega)).mono ?_
  rintro e u3 ⟨AX0, nX0, cX0, rfl, X0, hb3, qX0⟩
  have bel := bel_step bel hb3
  have sz3 := hb3.size
  have Wr := Wr.go hb3
  have X00 := X0
  have eX0 : nX0 ≤ 1048576 := by have := X0.len; have := r0.len; omega
  go_wp2_with fail
  refine (implLeastTerms_c _ _ _ _ _ _ X0.rd eX0).mono ?_
  rintro e u4 ⟨AGr, nGr, cGr, rfl, Gr, hb4, qGr⟩
  have bel := bel_step bel hb4
  have sz4 := hb4.size
  have Wr := Wr.go hb4
  have X0 := X0.go hb4
  have Gr0 := Gr
  go_wp2_with fail
  refine (eqIntS_c _ _ _ _ _ _ _ _ _ _ Gr.rd Wr.rd).mono ?_
  rintro e u5 ⟨rfl, hb5⟩
  have bel := bel_step bel hb5
  have sz5 := hb5.size
  have Wr := Wr.go hb5
  have X0 := X0.go hb5
  have Gr := Gr.go hb5
  go_wp2_with fail
  refine (toIntS_c _ _ _ _ _ _ (r0.below bel) bel.size (by omega)).mono ?_
  rintro e u6 ⟨AY0, nY0, cY0, rfl, Y0, hb6, qY0⟩
  have bel := bel_step bel hb6
  have sz6 := hb6.size
  have Wr := Wr.go hb6
  have X0 := X0.go hb6
  have Gr := Gr.go hb6
  have Y00 := Y0
  have eY0 : nY0 ≤ 1048576 := by have := Y0.len; have := r0.len; omega
  go_wp2_with fail
  refine (eqIntS_c _ _ _ _ _ _ _ _ _ _ X0.rd Y0.rd).mono ?_
  rintro e u7 ⟨rfl, hb7⟩
  have bel := bel_step bel hb7
  have sz7 := hb7.size
  have Wr := Wr.go hb7
  have X0 := X0.go hb7
  have Gr := Gr.go hb7
  have Y0 := Y0.go hb7
  go_wp2_with fail
  refine (markIntS_c _ _ _ _ _ _ _ X0 (by omega) (by omega) (by omega)).mono ?_
  rintro e u8 ⟨rfl, X0, hg8⟩
  have bel := bel.grown hg8 bel.size fun g hg => by have := (X00.lt g hg).1; omega
  have sz8 := hg8.size
  have Wr := Wr.kept hg8 (own_ne Wr0 X00 (by omega))
  have Gr := Gr.kept hg8 (own_ne' X00 Gr0 (by omega))
  go_wp2_with fail
  refine (eqIntS_c _ _ _ _ _ _ _ _ _ _ Gr.rd Wr.rd).mono ?_
  rintro e u9 ⟨rfl, hb9⟩
  have bel := bel_step bel hb9
  have sz9 := hb9.size
  have Wr := Wr.go hb9
  have X0 := X0.go hb9
  have Gr := Gr.go hb9
  go_wp2_with fail
  refine (markIntS_c _ _ _ _ _ _ _ Gr (by omega) (by omega) (by omega)).mono ?_
  rintro e u10 ⟨rfl, Gr, hg10⟩
  have bel := bel.grown hg10 bel.size fun g hg => by have := (Gr0.lt g hg).1; omega
  have sz10 := hg10.size
  have Wr := Wr.kept hg10 (own_ne Wr0 Gr0 (by omega))
  go_wp2_with fail
  refine (heldIntS_c _ _ _ _ _ _ Gr.rd (by omega) (by omega) (by omega)).mono ?_
  rintro e u11 ⟨rfl, hb11⟩
  have bel := bel_step bel hb11
  have sz11 := hb11.size
  have Wr := Wr.go hb11
  have Gr := Gr.go hb11
  go_wp2_with fail
  refine (toIntS_c _ _ _ _ _ _ (r0.below bel) bel.size (by omega)).mono ?_
  rintro e u12 ⟨AZ0, nZ0, cZ0, rfl, Z0, hb12, qZ0⟩
  have bel := bel_step bel hb12
  have sz12 := hb12.size
  have Wr := Wr.go hb12
  have Gr := Gr.go hb12
  have Z00 := Z0
  have eZ0 : nZ0 ≤ 1048576 := by have := Z0.len; have := r0.len; omega
  go_wp2_with fail
  refine (implLeastTerms_c _ _ _ _ _ _ Z0.rd eZ0).mono ?_
  rintro e u13 ⟨AHr, nHr, cHr, rfl, Hr, hb13, qHr⟩
  have bel := bel_step bel hb13
  have sz13 := hb13.size
  have Wr := Wr.go hb13
  have Gr := Gr.go hb13
  have Z0 := Z0.go hb13
  have Hr0 := Hr
  go_wp2_with fail
  refine (eqIntS_c _ _ _ _ _ _ _ _ _ _ Hr.rd Wr.rd).mono ?_
  rintro e u14 ⟨rfl, hb14⟩
  have bel := bel_step bel hb14
  have sz14 := hb14.size
  have Wr := Wr.go hb14
  have Gr := Gr.go hb14
  have Hr := Hr.go hb14
  go_wp2_with fail
  refine (heldIntS_c _ _ _ _ _ _ Gr.rd (by omega) (by omega) (by omega)).mono ?_
  rintro e u15 ⟨rfl, hb15⟩
  have bel := bel_step bel hb15
  have sz15 := hb15.size
  have Wr := Wr.go hb15
  have Gr := Gr.go hb15
  have Hr := Hr.go hb15
  go_wp2_with fail
  go_ret
  exact ⟨rfl, bel⟩
theorem specSlopesAt_c (A : Option Addr) (n c : Nat) (p : List Int) (x : Int) (w : World) (h : Rd w w.heap.size A n p) (_hn : n ≤ 1048576) :
    Calls Try.prog 33 #[.slice A n c, .int .i64 x] w fun e w' => e = .returned (.tuple #[.int .i64 (pSlopesAt p x).1, .int .i64 (pSlopesAt p x).2.1, .bool (pSlopesAt p x).2.2]) ∧ Below w.heap.size w w' := by
  cases ha : asked p x
  · have H : Hid (pSlopesAt p x = (0, 0, false)) := Lib.hid (by rw [pSlopesAt, ha]; rfl)
    have HT : Hid (pLeastTerms p x = ([], false)) := Lib.hid (by rw [pLeastTerms, ha]; rfl)
    have HA := Lib.hid ha
    clear ha
    go_enter Try.func33, Try.ntmps33
    go_wp2_with fail
    refine (poAsked_c _ _ _ _ _ _ h).mono ?_; rw [HA.out]; rintro e w1 ⟨rfl, hb⟩
    go_wp2_with fail
    go_ret3
    exact ⟨by rw [H.out]; rfl, hb⟩
  · have H : Hid (pSlopesAt p x = ((lplaces p x).getD ((lplaces p x).length - 1) 0, (lplaces p x).getD 0 0, true)) := Lib.hid (by rw [pSlopesAt, ha]; rfl)
    have HT : Hid (pLeastTerms p x = (lplaces p x, true)) := Lib.hid (by rw [pLeastTerms, ha]; rfl)
    obtain ⟨hp, hx⟩ := asked_parts ha
    have hpos := places_pos hp hx
    have HA := Lib.hid ha
    clear ha
    go_enter Try.func33, Try.ntmps33
    go_wp2_with fail
    refine (poAsked_c _ _ _ _ _ _ h).mono ?_; rw [HA.out]; rintro e w1 ⟨rfl, hb⟩
    have h1 := h.go hb (Nat.le_refl _)
    go_wp2_with fail
    refine (poTerms_c _ _ _ _ _ _ _ h1 hb.size hp hx).mono ?_; rintro e w2 ⟨A1, n1, c1, rfl, hown, hb2, hn1⟩
    go_wp2_with fail
    refine (nuPlaces_c _ _ _ _ _ _ hown.rd (Nat.le_refl _) (by omega)).mono ?_; rintro e w3 ⟨A2, n2, c2, rfl, hown2, hb3, hn2⟩
    have bel := bel_step (bel_step hb hb2) hb3
    have hl2 : (lplaces p x).length = n2 := hown2.len
    have hn0 : 1 ≤ n2 := by rw [← hl2]; exact hpos
    rw [hl2] at H
    have hr2 : Rd _ _ _ n2 (lplaces p x) := hown2.rd
    obtain ⟨ad, rfl, _, hc⟩ := hr2.at_ (show n2 - 1 < n2 by omega)
    obtain ⟨ad', e', _, hc'⟩ := hr2.at_ (show 0 < n2 by omega)
    obtain rfl : ad = ad' := by injection e'
    rw [ad_add0] at hc'
    clear hl2 hpos
    have HH := H
    generalize (lplaces p x).getD (n2 - 1) 0 = s at *
    generalize (lplaces p x).getD 0 0 = t at *
    have k0 : (0 : Int) < (n2 : Int) := by omega
    have k1 : (0 : Int) ≤ (n2 : Int) - 1 := by omega
    have k2 : (n2 : Int) - 1 < (n2 : Int) := by omega
    have e1 : IntKind.i64.wrap ((n2 : Int) - 1) = (n2 : Int) - 1 := IntWalk.i64_in _ (by omega)
    have e2 : ((n2 : Int) - 1).toNat = n2 - 1 := by omega
    have k3 : (1 : Int) ≤ (n2 : Int) := by omega
    have k4 : 0 < n2 := by omega
    have k5 : ¬ (n2 : Int) - 1 < 0 := by omega
    have k6 : ¬ (n2 : Int) ≤ (n2 : Int) - 1 := by omega
    go_wp2_with fail
    go_quiet (fail)
    clear e1 e2
    go_wp2_with fail
    go_ret3
    exact ⟨by rw [HH.out]; rfl, below_drewN bel _⟩
theorem implSlopesAt_c (A : Option Addr) (n c : Nat) (p : List Int) (x : Int) (w : World) (h : Rd w w.heap.size A n p) (_hn : n ≤ 1048576) :
    Calls Try.prog 34 #[.slice A n c, .int .i64 x] w fun e w' => e = .returned (.tuple #[.int .i64 (pSlopesAt p x).1, .int .i64 (pSlopesAt p x).2.1, .bool (pSlopesAt p x).2.2]) ∧ Below w.heap.size w w' := by
  cases ha : asked p x
  · have H : Hid (pSlopesAt p x = (0, 0, false)) := Lib.hid (by rw [pSlopesAt, ha]; rfl)
    have HT : Hid (pLeastTerms p x = ([], false)) := Lib.hid (by rw [pLeastTerms, ha]; rfl)
    have HA := Lib.hid ha
    clear ha
    go_enter Try.func34, Try.ntmps34
    go_wp2_with fail
    refine (implLeastTerms_c _ _ _ _ _ _ h _hn).mono ?_; rw [HT.out]; rintro e w1 ⟨A1, n1, c1, rfl, hown, hb, hn1⟩
    go_wp2_with fail
    go_ret3
    exact ⟨by rw [H.out]; rfl, hb⟩
  · have H : Hid (pSlopesAt p x = ((lplaces p x).getD ((lplaces p x).length - 1) 0, (lplaces p x).getD 0 0, true)) := Lib.hid (by rw [pSlopesAt, ha]; rfl)
    have HT : Hid (pLeastTerms p x = (lplaces p x, true)) := Lib.hid (by rw [pLeastTerms, ha]; rfl)
    obtain ⟨hp, hx⟩ := asked_parts ha
    have hpos := places_pos hp hx
    have HA := Lib.hid ha
    clear ha
    go_enter Try.func34, Try.ntmps34
    go_wp2_with fail
    refine (implLeastTerms_c _ _ _ _ _ _ h _hn).mono ?_; rw [HT.out]; rintro e w3 ⟨A2, n2, c2, rfl, hown2, bel, hn2⟩
    have hl2 : (lplaces p x).length = n2 := hown2.len
    have hn0 : 1 ≤ n2 := by rw [← hl2]; exact hpos
    rw [hl2] at H
    have hr2 : Rd _ _ _ n2 (lplaces p x) := hown2.rd
    obtain ⟨ad, rfl, _, hc⟩ := hr2.at_ (show n2 - 1 < n2 by omega)
    obtain ⟨ad', e', _, hc'⟩ := hr2.at_ (show 0 < n2 by omega)
    obtain rfl : ad = ad' := by injection e'
    rw [ad_add0] at hc'
    clear hl2 hpos
    have HH := H
    generalize (lplaces p x).getD (n2 - 1) 0 = s at *
    generalize (lplaces p x).getD 0 0 = t at *
    have k0 : (0 : Int) < (n2 : Int) := by omega
    have k1 : (0 : Int) ≤ (n2 : Int) - 1 := by omega
    have k2 : (n2 : Int) - 1 < (n2 : Int) := by omega
    have e1 : IntKind.i64.wrap ((n2 : Int) - 1) = (n2 : Int) - 1 := IntWalk.i64_in _ (by omega)
    have e2 : ((n2 : Int) - 1).toNat = n2 - 1 := by omega
    have k3 : (1 : Int) ≤ (n2 : Int) := by omega
    have k4 : 0 < n2 := by omega
    have k5 : ¬ (n2 : Int) - 1 < 0 := by omega
    have k6 : ¬ (n2 : Int) ≤ (n2 : Int) - 1 := by omega
    go_wp2_with fail
    go_quiet (fail)
    clear e1 e2
    go_wp2_with fail
    go_ret3
    exact ⟨by rw [HH.out]; rfl, below_drewN bel _⟩
theorem walk_FnExactSlopesAt (A0 : Option Addr) (n0 c0 : Nat) (z0 : List Int) (a1 : Int) (w : World) (r0 : Rd w w.heap.size A0 n0 z0) (w1 : (Lit.int .i64 a1).wf = true) :
  Calls Try.prog 10 #[.slice A0 n0 c0, .int .i64 a1] w fun e w' => e = .returned (.bool true) ∧ Below w.heap.size w w' := by
  have _w := w1
  have l0 := r0.le
  by_cases s0 : n0 ≤ 1048576
  rotate_left
  · go_enter Try.func10, Try.ntmps10
    go_wp2_with fail
    go_ret
    exact ⟨rfl, Below.refl _ _⟩
  go_enter Try.func10, Try.ntmps10
  have bel : Below w.heap.size w w := Below.refl _ _
  go_wp2_with fail
  refine (toIntS_c _ _ _ _ _ _ (r0.below bel) bel.size (by omega)).mono ?_
  rintro e u1 ⟨AT0, nT0, cT0, rfl, T0, hb1, qT0⟩
  have bel := bel_step bel hb1
  have sz1 := hb1.size
  have T00 := T0
  have eT0 : nT0 ≤ 1048576 := by have := T0.len; have := r0.len; omega
  go_wp2_with fail
  refine (specSlopesAt_c _ _ _ _ _ _ T0.rd eT0).mono ?_
  rintro e u2 ⟨rfl, hb2⟩
  have bel := bel_step bel hb2
  have sz2 := hb2.size
  have T0 := T0.go hb2
  go_wp2_with fail
  refine (toIntS_c _ _ _ _ _ _ (r0.below bel) bel.size (by omega)).mono ?_
  rintro e u3 ⟨AX0, nX0, cX0, rfl, X0, hb3, qX0⟩
  have bel := bel_step bel hb3
  have sz3 := hb3.size
  have X00 := X0
  have eX0 : nX0 ≤ 1048576 := by have := X0.len; have := r0.len; omega
  go_wp2_with fail
  refine (implSlopesAt_c _ _ _ _ _ _ X0.rd eX0).mono ?_
  rintro e u4 ⟨rfl, hb4⟩
  have bel := bel_step bel hb4
  have sz4 := hb4.size
  have X0 := X0.go hb4
  go_wp2_with fail
  refine (toIntS_c _ _ _ _ _ _ (r0.below bel) bel.size (by omega)).mono ?_
  rintro e u5 ⟨AY0, nY0, cY0, rfl, Y0, hb5, qY0⟩
  have bel := bel_step bel hb5
  have sz5 := hb5.size
  have X0 := X0.go hb5
  have Y00 := Y0
  have eY0 : nY0 ≤ 1048576 := by have := Y0.len; have := r0.len; omega
  go_wp2_with fail
  refine (eqIntS_c _ _ _ _ _ _ _ _ _ _ X0.rd Y0.rd).mono ?_
  rintro e u6 ⟨rfl, hb6⟩
  have bel := bel_step bel hb6
  have sz6 := hb6.size
  have X0 := X0.go hb6
  have Y0 := Y0.go hb6
  go_wp2_with fail
  go_ret
  exact ⟨rfl, bel⟩

theorem implMovePoly_c (A : Option Addr) (n c : Nat) (p : List Int) (x : Int) (w : World) (h : Rd w w.heap.size A n p) (_hn : n ≤ 1048576) :
    Calls Try.prog 24 #[.slice A n c, .int .i64 x] w (RetOwnB 3 (pMovePoly p x).1 (pMovePoly p x).2 w) := by
  cases hp : isPol p <;> cases hx : isFin x
  case true.true =>
    have hv := vals_pol hp hx
    cases hz : (vals p x).all isNum
    all_goals
      have H : Hid (pMovePoly p x = toldList (vals p x)) := Lib.hid (by rw [pMovePoly, hp, hx]; rfl)
      have HT := Lib.hid (show toldList (vals p x) = _ by rw [toldList, hz])
      rw [hz] at hv
      have HV := Lib.hid hv
      have HP := Lib.hid hp
      have HX := Lib.hid hx
      clear hp hx hv hz
      go_enter Try.func24, Try.ntmps24
      go_wp2_with (first
        | (go_at_call 46; refine (isPoly_c _ _ _ _ _ _ h).mono ?_; rw [HP.out]; rintro e w' ⟨rfl, rfl⟩)
        | (go_at_call 54; refine (isFinite_c _ _).mono ?_; rw [HX.out]; rintro e w' ⟨rfl, rfl⟩)
        | (go_at_call 56; refine (values_c _ _ _ _ _ _ _ h (Nat.le_refl _) HP.out HX.out).mono ?_; rintro e w1 ⟨A1, n1, c1, rfl, hown, hb, hn1⟩)
        | (go_at_call 55; refine (toldPoly_c _ _ _ _ _ _ _ HV.out hown.rd).mono ?_; rintro e w' ⟨rfl, rfl⟩))
      go_ret2
      rw [H.out, HT.out]
      first
        | exact retOwnB_mk hown hb hn1
        | exact retOwnB_mk (Own.nil _ _ _) hb (by omega)
  all_goals
    have H : Hid (pMovePoly p x = ([], false)) := Lib.hid (by rw [pMovePoly, hp, hx]; rfl)
    have HP := Lib.hid hp
    have HX := Lib.hid hx
    clear hp hx
    go_enter Try.func24, Try.ntmps24
    go_wp2_with (first
      | (go_at_call 46; refine (isPoly_c _ _ _ _ _ _ h).mono ?_; rw [HP.out]; rintro e w' ⟨rfl, rfl⟩)
      | (go_at_call 54; refine (isFinite_c _ _).mono ?_; rw [HX.out]; rintro e w' ⟨rfl, rfl⟩))
    go_ret2
    rw [H.out]
    exact retOwnB_mk (Own.nil _ _ _) (Below.refl _ _) (by omega)
theorem specMovePoly_c (A : Option Addr) (n c : Nat) (p : List Int) (x : Int) (w : World) (h : Rd w w.heap.size A n p) (_hn : n ≤ 1048576) :
    Calls Try.prog 23 #[.slice A n c, .int .i64 x] w (RetOwnB 3 (pMovePoly p x).1 (pMovePoly p x).2 w) := by
  cases hp : isPol p <;> cases hx : isFin x
  case true.true =>
    have H : Hid (pMovePoly p x = toldList (vals p x)) := Lib.hid (by rw [pMovePoly, hp, hx]; rfl)
    have HP := Lib.hid hp
    have HX := Lib.hid hx
    clear hp hx
    go_enter Try.func23, Try.ntmps23
    go_wp2_with (first
      | (go_at_call 45; refine (poGood_c _ _ _ _ _ _ h).mono ?_; rw [HP.out]; rintro e w' ⟨rfl, rfl⟩)
      | (go_at_call 51; refine (poFinite_c _ _).mono ?_; rw [HX.out]; rintro e w' ⟨rfl, rfl⟩)
      | (go_at_call 52; refine (poTerms_c _ _ _ _ _ _ _ h (Nat.le_refl _) HP.out HX.out).mono ?_; rintro e w1 ⟨A1, n1, c1, rfl, hown, hb, hn1⟩))
    have hr := hown.rd
    have HL := Lib.hid hr.len
    have hm1 := hr.le
    generalize vals p x = vs at *
    go_loop [22] (fun i => ∃ k : Nat, k ≤ n1 ∧ i = .int .i64 k ∧ Hid ((vs.take k).all isNum = true)) (fun i => n1 - (intOf i).toNat)
    case atStart => exact ⟨0, Nat.zero_le _, rfl, hid_take0 _ _⟩
    case round =>
      obtain ⟨k, hk, rfl, hall⟩ := hrel
      by_cases hlt : k < n1
      · obtain ⟨ad, rfl, _, hc⟩ := hr.at_ hlt
        have hkz : k < vs.length := by rw [HL.out]; exact hlt
        cases hq : isNum (vs.getD k 0)
        · have HS := all_stop hkz hq
          have HQ := Lib.hid hq
          clear hq hkz
          generalize vs.getD k 0 = z at *
          go_wp2_with (go_at_call 53; refine (nuGood_c _ _).mono ?_; rw [HQ.out]; rintro e w' ⟨rfl, rfl⟩)
          go_ret2
          rw [H.out, toldList, HS.out]
          exact retOwnB_mk (Own.nil _ _ _) hb (by omega)
        · have HN := all_next hall hkz hq
          have HQ := Lib.hid hq
          clear hq hkz
          generalize vs.getD k 0 = z at *
          go_wp2_with (go_at_call 53; refine (nuGood_c _ _).mono ?_; rw [HQ.out]; rintro e w' ⟨rfl, rfl⟩)
          go_round
          case rel => exact ⟨k + 1, by omega, by go_num, HN⟩
          case measure => simp [intOf]; omega
      · have HS := Lib.hid (all_done hall (by rw [HL.out]; omega))
        go_wp2_with fail
        go_ret2
        rw [H.out, toldList, HS.out]
        exact retOwnB_mk hown hb hn1
  all_goals
    have H : Hid (pMovePoly p x = ([], false)) := Lib.hid (by rw [pMovePoly, hp, hx]; rfl)
    have HP := Lib.hid hp
    have HX := Lib.hid hx
    clear hp hx
    go_enter Try.func23, Try.ntmps23
    go_wp2_with (first
      | (go_at_call 45; refine (poGood_c _ _ _ _ _ _ h).mono ?_; rw [HP.out]; rintro e w' ⟨rfl, rfl⟩)
      | (go_at_call 51; refine (poFinite_c _ _).mono ?_; rw [HX.out]; rintro e w' ⟨rfl, rfl⟩))
    go_ret2
    rw [H.out]
    exact retOwnB_mk (Own.nil _ _ _) (Below.refl _ _) (by omega)
theorem walk_FnExactMovePoly (A0 : Option Addr) (n0 c0 : Nat) (z0 : List Int) (a1 : Int) (w : World) (r0 : Rd w w.heap.size A0 n0 z0) (w1 : (Lit.int .i64 a1).wf = true) :
  Calls Try.prog 5 #[.slice A0 n0 c0, .int .i64 a1] w fun e w' => e = .returned (.bool true) ∧ Below w.heap.size w w' := by
  have _w := w1
  have l0 := r0.le
  by_cases s0 : n0 ≤ 1048576
  rotate_left
  · go_enter Try.func5, Try.ntmps5
    go_wp2_with fail
    go_ret
    exact ⟨rfl, Below.refl _ _⟩
  go_enter Try.func5, Try.ntmps5
  have bel : Below w.heap.size w w := Below.refl _ _
  go_wp2_with fail
  refine (toIntS_c _ _ _ _ _ _ (r0.below bel) bel.size (by omega)).mono ?_
  rintro e u1 ⟨AT0, nT0, cT0, rfl, T0, hb1, qT0⟩
  have bel := bel_step bel hb1
  have sz1 := hb1.size
  have T00 := T0
  have eT0 : nT0 ≤ 1048576 := by have := T0.len; have := r0.len; omega
  go_wp2_with fail
  refine (specMovePoly_c _ _ _ _ _ _ T0.rd eT0).mono ?_
  rintro e u2 ⟨AWr, nWr, cWr, rfl, Wr, hb2, qWr⟩
  have bel := bel_step bel hb2
  have sz2 := hb2.size
  have T0 := T0.go hb2
  have Wr0 := Wr
  go_wp2_with fail
  refine (toIntS_c _ _ _ _ _ _ (r0.below bel) bel.size (by omega)).mono ?_
  rintro e u3 ⟨AX0, nX0, cX0, rfl, X0, hb3, qX0⟩
  have bel := bel_step bel hb3
  have sz3 := hb3.size
  have Wr := Wr.go hb3
  have X00 := X0
  have eX0 : nX0 ≤ 1048576 := by have := X0.len; have := r0.len; omega
  go_wp2_with fail
  refine (implMovePoly_c _ _ _ _ _ _ X0.rd eX0).mono ?_
  rintro e u4 ⟨AGr, nGr, cGr, rfl, Gr, hb4, qGr⟩
  have bel := bel_step bel hb4
  have sz4 := hb4.size
  have Wr := Wr.go hb4
  have X0 := X0.go hb4
  have Gr0 := Gr
  go_wp2_with fail
  refine (eqIntS_c _ _ _ _ _ _ _ _ _ _ Gr.rd Wr.rd).mono ?_
  rintro e u5 ⟨rfl, hb5⟩
  have bel := bel_step bel hb5
  have sz5 := hb5.size
  have Wr := Wr.go hb5
  have X0 := X0.go hb5
  have Gr := Gr.go hb5
  go_wp2_with fail
  refine (toIntS_c _ _ _ _ _ _ (r0.below bel) bel.size (by omega)).mono ?_
  rintro e u6 ⟨AY0, nY0, cY0, rfl, Y0, hb6, qY0⟩
  have bel := bel_step bel hb6
  have sz6 := hb6.size
  have Wr := Wr.go hb6
  have X0 := X0.go hb6
  have Gr := Gr.go hb6
  have Y00 := Y0
  have eY0 : nY0 ≤ 1048576 := by have := Y0.len; have := r0.len; omega
  go_wp2_with fail
  refine (eqIntS_c _ _ _ _ _ _ _ _ _ _ X0.rd Y0.rd).mono ?_
  rintro e u7 ⟨rfl, hb7⟩
  have bel := bel_step bel hb7
  have sz7 := hb7.size
  have Wr := Wr.go hb7
  have X0 := X0.go hb7
  have Gr := Gr.go hb7
  have Y0 := Y0.go hb7
  go_wp2_with fail
  refine (markIntS_c _ _ _ _ _ _ _ X0 (by omega) (by omega) (by omega)).mono ?_
  rintro e u8 ⟨rfl, X0, hg8⟩
  have bel := bel.grown hg8 bel.size fun g hg => by have := (X00.lt g hg).1; omega
  have sz8 := hg8.size
  have Wr := Wr.kept hg8 (own_ne Wr0 X00 (by omega))
  have Gr := Gr.kept hg8 (own_ne' X00 Gr0 (by omega))
  go_wp2_with fail
  refine (eqIntS_c _ _ _ _ _ _ _ _ _ _ Gr.rd Wr.rd).mono ?_
  rintro e u9 ⟨rfl, hb9⟩
  have bel := bel_step bel hb9
  have sz9 := hb9.size
  have Wr := Wr.go hb9
  have X0 := X0.go hb9
  have Gr := Gr.go hb9
  go_wp2_with fail
  refine (markIntS_c _ _ _ _ _ _ _ Gr (by omega) (by omega) (by omega)).mono ?_
  rintro e u10 ⟨rfl, Gr, hg10⟩
  have bel := bel.grown hg10 bel.size fun g hg => by have := (Gr0.lt g hg).1; omega
  have sz10 := hg10.size
  have Wr := Wr.kept hg10 (own_ne Wr0 Gr0 (by omega))
  go_wp2_with fail
  refine (heldIntS_c _ _ _ _ _ _ Gr.rd (by omega) (by omega) (by omega)).mono ?_
  rintro e u11 ⟨rfl, hb11⟩
  have bel := bel_step bel hb11
  have sz11 := hb11.size
  have Wr := Wr.go hb11
  have Gr := Gr.go hb11
  go_wp2_with fail
  refine (toIntS_c _ _ _ _ _ _ (r0.below bel) bel.size (by omega)).mono ?_
  rintro e u12 ⟨AZ0, nZ0, cZ0, rfl, Z0, hb12, qZ0⟩
  have bel := bel_step bel hb12
  have sz12 := hb12.size
  have Wr := Wr.go hb12
  have Gr := Gr.go hb12
  have Z00 := Z0
  have eZ0 : nZ0 ≤ 1048576 := by have := Z0.len; have := r0.len; omega
  go_wp2_with fail
  refine (implMovePoly_c _ _ _ _ _ _ Z0.rd eZ0).mono ?_
  rintro e u13 ⟨AHr, nHr, cHr, rfl, Hr, hb13, qHr⟩
  have bel := bel_step bel hb13
  have sz13 := hb13.size
  have Wr := Wr.go hb13
  have Gr := Gr.go hb13
  have Z0 := Z0.go hb13
  have Hr0 := Hr
  go_wp2_with fail
  refine (eqIntS_c _ _ _ _ _ _ _ _ _ _ Hr.rd Wr.rd).mono ?_
  rintro e u14 ⟨rfl, hb14⟩
  have bel := bel_step bel hb14
  have sz14 := hb14.size
  have Wr := Wr.go hb14
  have Gr := Gr.go hb14
  have Hr := Hr.go hb14
  go_wp2_with fail
  refine (heldIntS_c _ _ _ _ _ _ Gr.rd (by omega) (by omega) (by omega)).mono ?_
  rintro e u15 ⟨rfl, hb15⟩
  have bel := bel_step bel hb15
  have sz15 := hb15.size
  have Wr := Wr.go hb15
  have Gr := Gr.go hb15
  have Hr := Hr.go hb15
  go_wp2_with fail
  go_ret
  exact ⟨rfl, bel⟩
theorem implPolySum_c (A : Option Addr) (n c : Nat) (p : List Int) (A' : Option Addr) (n' c' : Nat) (q : List Int) (w : World) (h : Rd w w.heap.size A n p) (_hn : n ≤ 1048576) (h' : Rd w w.heap.size A' n' q) (_hn' : n' ≤ 1048576) :
    Calls Try.prog 20 #[.slice A n c, .slice A' n' c'] w (RetOwnB 3 (pPolySum p q).1 (pPolySum p q).2 w) := by
  cases hp : isPol p <;> cases hq : isPol q
  case true.true =>
    have H : Hid (pPolySum p q = (psumTo p q (max p.length q.length), true)) := Lib.hid (by rw [pPolySum, hp, hq]; rfl)
    have hl := isPol_len hp
    have hl' := isPol_len hq
    have HN := Lib.hid (show p.length = n from h.len)
    have HN' := Lib.hid (show q.length = n' from h'.len)
    rw [HN.out] at hl
    rw [HN'.out] at hl'
    have HP := Lib.hid hp
    have HQ := Lib.hid hq
    clear hp hq
    obtain ⟨i0, hi, hz0, hz1, hz2⟩ := info_parts info_int
    have HI := Lib.hid hi
    have HZ0 := Lib.hid hz0
    have HZ1 := Lib.hid hz1
    have HZ2 := Lib.hid hz2
    clear hi hz0 hz1 hz2
    go_enter Try.func20, Try.ntmps20
    go_wp2_with fail
    refine (isPoly_c _ _ _ _ _ _ h).mono ?_; rw [HP.out]; rintro e w' ⟨rfl, rfl⟩
    go_wp2_with fail
    refine (isPoly_c _ _ _ _ _ _ h').mono ?_; rw [HQ.out]; rintro e w' ⟨rfl, rfl⟩
    by_cases hord : n < n'
    · skip
      have HX : Hid (max (n : Int) (n' : Int) = (n' : Int)) := Lib.hid (by omega)
      have HM : Hid (max p.length q.length = n') := Lib.hid (by rw [HN.out, HN'.out]; omega)
      rw [HM.out] at H
      go_wp2_with fail
      go_loopw [6, 22] (fun v i wr => ∃ k : Nat, k ≤ n' ∧ i = .int .i64 k ∧ Own wr w.heap.size 3 v k (psumTo p q k) ∧ Below w.heap.size w wr) (fun _ i _ => n' - (intOf i).toNat)
      case atStart => exact ⟨0, Nat.zero_le _, rfl, Own.empty _ _ (Nat.le_refl _), bel_new _ _⟩
      case round =>
        obtain ⟨k, hk, rfl, hown, hbel⟩ := hrel
        have hsz := hbel.size
        have hr := h.below hbel
        have hr' := h'.below hbel
        by_cases hlt : k < n'
        · have HS : Hid (psumTo p q (k + 1) = psumTo p q k ++ [min (coef p k) (coef q k)]) := Lib.hid rfl
          go_wp2_with fail
          refine (coefficient_c _ _ _ _ _ _ _ hr (by omega) (by omega)).mono ?_; rintro e w' ⟨rfl, rfl⟩
          go_wp2_with fail
          refine (coefficient_c _ _ _ _ _ _ _ hr' (by omega) (by omega)).mono ?_; rintro e w' ⟨rfl, rfl⟩
          rw [Int.toNat_natCast]
          generalize coef p k = x at *
          generalize coef q k = y at *
          by_cases hxy : y < x
          all_goals
            have HE := Lib.hid (show min x y = _ by first | exact Int.min_eq_right (by omega) | exact Int.min_eq_left (by omega))
            rw [HE.out] at HS
            go_wp2_with (at_builtin; refine wp_app1 rfl _ _ 22 rfl w.heap.size 3 i0 Try.underlying22 HI.out HZ0.out HZ1.out HZ2.out _ _ _ rfl hown _ rfl (by omega) hsz ?_)
            intro v' w1 h1 hb1 _
            have hbel' := hbel.trans hb1
            rw [← HS.out] at h1
            clear hown hbel hb1 hr hr'
            go_wp2_with fail
            go_roundw
            case rel => exact ⟨k + 1, by omega, by go_num, h1, hbel'⟩
            case measure => simp [intOf]; omega
        · obtain rfl : k = n' := by omega
          go_wp2_with fail
          go_ret2
          rw [H.out]
          exact retOwnB_mk hown hbel (by omega)
    · skip
      have HX : Hid (max (n : Int) (n' : Int) = (n : Int)) := Lib.hid (by omega)
      have HM : Hid (max p.length q.length = n) := Lib.hid (by rw [HN.out, HN'.out]; omega)
      rw [HM.out] at H
      go_wp2_with fail
      go_loopw [6, 22] (fun v i wr => ∃ k : Nat, k ≤ n ∧ i = .int .i64 k ∧ Own wr w.heap.size 3 v k (psumTo p q k) ∧ Below w.heap.size w wr) (fun _ i _ => n - (intOf i).toNat)
      case atStart => exact ⟨0, Nat.zero_le _, rfl, Own.empty _ _ (Nat.le_refl _), bel_new _ _⟩
      case round =>
        obtain ⟨k, hk, rfl, hown, hbel⟩ := hrel
        have hsz := hbel.size
        have hr := h.below hbel
        have hr' := h'.below hbel
        by_cases hlt : k < n
        · have HS : Hid (psumTo p q (k + 1) = psumTo p q k ++ [min (coef p k) (coef q k)]) := Lib.hid rfl
          go_wp2_with fail
          refine (coefficient_c _ _ _ _ _ _ _ hr (by omega) (by omega)).mono ?_; rintro e w' ⟨rfl, rfl⟩
          go_wp2_with fail
          refine (coefficient_c _ _ _ _ _ _ _ hr' (by omega) (by omega)).mono ?_; rintro e w' ⟨rfl, rfl⟩
          rw [Int.toNat_natCast]
          generalize coef p k = x at *
          generalize coef q k = y at *
          by_cases hxy : y < x
          all_goals
            have HE := Lib.hid (show min x y = _ by first | exact Int.min_eq_right (by omega) | exact Int.min_eq_left (by omega))
            rw [HE.out] at HS
            go_wp2_with (at_builtin; refine wp_app1 rfl _ _ 22 rfl w.heap.size 3 i0 Try.underlying22 HI.out HZ0.out HZ1.out HZ2.out _ _ _ rfl hown _ rfl (by omega) hsz ?_)
            intro v' w1 h1 hb1 _
            have hbel' := hbel.trans hb1
            rw [← HS.out] at h1
            clear hown hbel hb1 hr hr'
            go_wp2_with fail
            go_roundw
            case rel => exact ⟨k + 1, by omega, by go_num, h1, hbel'⟩
            case measure => simp [intOf]; omega
        · obtain rfl : k = n := by omega
          go_wp2_with fail
          go_ret2
          rw [H.out]
          exact retOwnB_mk hown hbel (by omega)
  all_goals
    have H : Hid (pPolySum p q = ([], false)) := Lib.hid (by rw [pPolySum, hp, hq]; rfl)
    have HP := Lib.hid hp
    have HQ := Lib.hid hq
    clear hp hq
    go_enter Try.func20, Try.ntmps20
    go_wp2_with fail
    refine (isPoly_c _ _ _ _ _ _ h).mono ?_; rw [HP.out]; rintro e w' ⟨rfl, rfl⟩
    go_wp2_with (go_at_call 46; refine (isPoly_c _ _ _ _ _ _ h').mono ?_; rw [HQ.out]; rintro e w' ⟨rfl, rfl⟩)
    go_ret2
    rw [H.out]
    exact retOwnB_mk (Own.nil _ _ _) (Below.refl _ _) (by omega)
theorem specPolySum_c (A : Option Addr) (n c : Nat) (p : List Int) (A' : Option Addr) (n' c' : Nat) (q : List Int) (w : World) (h : Rd w w.heap.size A n p) (_hn : n ≤ 1048576) (h' : Rd w w.heap.size A' n' q) (_hn' : n' ≤ 1048576) :
    Calls Try.prog 19 #[.slice A n c, .slice A' n' c'] w (RetOwnB 3 (pPolySum p q).1 (pPolySum p q).2 w) := by
  cases hp : isPol p <;> cases hq : isPol q
  case true.true =>
    have H : Hid (pPolySum p q = (psumTo p q (max p.length q.length), true)) := Lib.hid (by rw [pPolySum, hp, hq]; rfl)
    have hl := isPol_len hp
    have hl' := isPol_len hq
    have HN := Lib.hid (show p.length = n from h.len)
    have HN' := Lib.hid (show q.length = n' from h'.len)
    rw [HN.out] at hl
    rw [HN'.out] at hl'
    have HP := Lib.hid hp
    have HQ := Lib.hid hq
    clear hp hq
    obtain ⟨i0, hi, hz0, hz1, hz2⟩ := info_parts info_int
    have HI := Lib.hid hi
    have HZ0 := Lib.hid hz0
    have HZ1 := Lib.hid hz1
    have HZ2 := Lib.hid hz2
    clear hi hz0 hz1 hz2
    go_enter Try.func19, Try.ntmps19
    go_wp2_with fail
    refine (poGood_c _ _ _ _ _ _ h).mono ?_; rw [HP.out]; rintro e w' ⟨rfl, rfl⟩
    go_wp2_with fail
    refine (poGood_c _ _ _ _ _ _ h').mono ?_; rw [HQ.out]; rintro e w' ⟨rfl, rfl⟩
    by_cases hord : n < n'
    · skip
      have HX : Hid (max (n : Int) (n' : Int) = (n' : Int)) := Lib.hid (by omega)
      have HM : Hid (max p.length q.length = n') := Lib.hid (by rw [HN.out, HN'.out]; omega)
      rw [HM.out] at H
      go_wp2_with fail
      go_loopw [6, 7] (fun v i wr => ∃ k : Nat, k ≤ n' ∧ i = .int .i64 k ∧ Own wr w.heap.size 3 v k (psumTo p q k) ∧ Below w.heap.size w wr) (fun _ i _ => n' - (intOf i).toNat)
      case atStart => exact ⟨0, Nat.zero_le _, rfl, Own.nil _ _ _, Below.refl _ _⟩
      case round =>
        obtain ⟨k, hk, rfl, hown, hbel⟩ := hrel
        have hsz := hbel.size
        have hr := h.below hbel
        have hr' := h'.below hbel
        by_cases hlt : k < n'
        · have HS : Hid (psumTo p q (k + 1) = psumTo p q k ++ [min (coef p k) (coef q k)]) := Lib.hid rfl
          go_wp2_with fail
          refine (l1Most_c _ _ _).mono ?_; rintro e w' ⟨rfl, rfl⟩
          rw [HX.out]
          go_wp2_with fail
          refine (poAt_c _ _ _ _ _ _ _ hr (by omega) (by omega)).mono ?_; rintro e w' ⟨rfl, rfl⟩
          go_wp2_with fail
          refine (poAt_c _ _ _ _ _ _ _ hr' (by omega) (by omega)).mono ?_; rintro e w' ⟨rfl, rfl⟩
          rw [Int.toNat_natCast]
          generalize coef p k = x at *
          generalize coef q k = y at *
          go_wp2_with fail
          refine (l1Least_c _ _ _).mono ?_; rintro e w' ⟨rfl, rfl⟩
          go_wp2_with (at_builtin; refine wp_app1 rfl _ _ 22 rfl w.heap.size 3 i0 Try.underlying22 HI.out HZ0.out HZ1.out HZ2.out _ _ _ rfl hown _ rfl (by omega) hsz ?_)
          intro v' w1 h1 hb1 _
          have hbel' := hbel.trans hb1
          rw [← HS.out] at h1
          clear hown hbel hb1 hr hr'
          go_wp2_with fail
          go_roundw
          case rel => exact ⟨k + 1, by omega, by go_num, h1, hbel'⟩
          case measure => simp [intOf]; omega
        · obtain rfl : k = n' := by omega
          go_wp2_with fail
          refine (l1Most_c _ _ _).mono ?_; rintro e w' ⟨rfl, rfl⟩
          rw [HX.out]
          go_wp2_with fail
          go_ret2
          rw [H.out]
          exact retOwnB_mk hown hbel (by omega)
    · skip
      have HX : Hid (max (n : Int) (n' : Int) = (n : Int)) := Lib.hid (by omega)
      have HM : Hid (max p.length q.length = n) := Lib.hid (by rw [HN.out, HN'.out]; omega)
      rw [HM.out] at H
      go_wp2_with fail
      go_loopw [6, 7] (fun v i wr => ∃ k : Nat, k ≤ n ∧ i = .int .i64 k ∧ Own wr w.heap.size 3 v k (psumTo p q k) ∧ Below w.heap.size w wr) (fun _ i _ => n - (intOf i).toNat)
      case atStart => exact ⟨0, Nat.zero_le _, rfl, Own.nil _ _ _, Below.refl _ _⟩
      case round =>
        obtain ⟨k, hk, rfl, hown, hbel⟩ := hrel
        have hsz := hbel.size
        have hr := h.below hbel
        have hr' := h'.below hbel
        by_cases hlt : k < n
        · have HS : Hid (psumTo p q (k + 1) = psumTo p q k ++ [min (coef p k) (coef q k)]) := Lib.hid rfl
          go_wp2_with fail
          refine (l1Most_c _ _ _).mono ?_; rintro e w' ⟨rfl, rfl⟩
          rw [HX.out]
          go_wp2_with fail
          refine (poAt_c _ _ _ _ _ _ _ hr (by omega) (by omega)).mono ?_; rintro e w' ⟨rfl, rfl⟩
          go_wp2_with fail
          refine (poAt_c _ _ _ _ _ _ _ hr' (by omega) (by omega)).mono ?_; rintro e w' ⟨rfl, rfl⟩
          rw [Int.toNat_natCast]
          generalize coef p k = x at *
          generalize coef q k = y at *
          go_wp2_with fail
          refine (l1Least_c _ _ _).mono ?_; rintro e w' ⟨rfl, rfl⟩
          go_wp2_with (at_builtin; refine wp_app1 rfl _ _ 22 rfl w.heap.size 3 i0 Try.underlying22 HI.out HZ0.out HZ1.out HZ2.out _ _ _ rfl hown _ rfl (by omega) hsz ?_)
          intro v' w1 h1 hb1 _
          have hbel' := hbel.trans hb1
          rw [← HS.out] at h1
          clear hown hbel hb1 hr hr'
          go_wp2_with fail
          go_roundw
          case rel => exact ⟨k + 1, by omega, by go_num, h1, hbel'⟩
          case measure => simp [intOf]; omega
        · obtain rfl : k = n := by omega
          go_wp2_with fail
          refine (l1Most_c _ _ _).mono ?_; rintro e w' ⟨rfl, rfl⟩
          rw [HX.out]
          go_wp2_with fail
          go_ret2
          rw [H.out]
          exact retOwnB_mk hown hbel (by omega)
  all_goals
    have H : Hid (pPolySum p q = ([], false)) := Lib.hid (by rw [pPolySum, hp, hq]; rfl)
    have HP := Lib.hid hp
    have HQ := Lib.hid hq
    clear hp hq
    go_enter Try.func19, Try.ntmps19
    go_wp2_with fail
    refine (poGood_c _ _ _ _ _ _ h).mono ?_; rw [HP.out]; rintro e w' ⟨rfl, rfl⟩
    go_wp2_with (go_at_call 45; refine (poGood_c _ _ _ _ _ _ h').mono ?_; rw [HQ.out]; rintro e w' ⟨rfl, rfl⟩)
    go_ret2
    rw [H.out]
    exact retOwnB_mk (Own.nil _ _ _) (Below.refl _ _) (by omega)
theorem walk_FnExactPolySum (A0 : Option Addr) (n0 c0 : Nat) (z0 : List Int) (A1 : Option Addr) (n1 c1 : Nat) (z1 : List Int) (w : World) (r0 : Rd w w.heap.size A0 n0 z0) (r1 : Rd w w.heap.size A1 n1 z1) :
  Calls Try.prog 4 #[.slice A0 n0 c0, .slice A1 n1 c1] w fun e w' => e = .returned (.bool true) ∧ Below w.heap.size w w' := by
  have l0 := r0.le
  by_cases s0 : n0 ≤ 1048576
  rotate_left
  · go_enter Try.func4, Try.ntmps4
    go_wp2_with fail
    go_ret
    exact ⟨rfl, Below.refl _ _⟩
  have l1 := r1.le
  by_cases s1 : n1 ≤ 1048576
  rotate_left
  · go_enter Try.func4, Try.ntmps4
    go_wp2_with fail
    go_ret
    exact ⟨rfl, Below.refl _ _⟩
  go_enter Try.func4, Try.ntmps4
  have bel : Below w.heap.size w w := Below.refl _ _
  go_wp2_with fail
  refine (toIntS_c _ _ _ _ _ _ (r0.below bel) bel.size (by omega)).mono ?_
  rintro e u1 ⟨AT0, nT0, cT0, rfl, T0, hb1, qT0⟩
  have bel := bel_step bel hb1
  have sz1 := hb1.size
  have T00 := T0
  have eT0 : nT0 ≤ 1048576 := by have := T0.len; have := r0.len; omega
  go_wp2_with fail
  refine (toIntS_c _ _ _ _ _ _ (r1.below bel) bel.size (by omega)).mono ?_
  rintro e u2 ⟨AT1, nT1, cT1, rfl, T1, hb2, qT1⟩
  have bel := bel_step bel hb2
  have sz2 := hb2.size
  have T0 := T0.go hb2
  have T10 := T1
  have eT1 : nT1 ≤ 1048576 := by have := T1.len; have := r1.len; omega
  go_wp2_with fail
  refine (specPolySum_c _ _ _ _ _ _ _ _ _ T0.rd eT0 T1.rd eT1).mono ?_
  rintro e u3 ⟨AWr, nWr, cWr, rfl, Wr, hb3, qWr⟩
  have bel := bel_step bel hb3
  have sz3 := hb3.size
  have T0 := T0.go hb3
  have T1 := T1.go hb3
  have Wr0 := Wr
  go_wp2_with fail
  refine (toIntS_c _ _ _ _ _ _ (r0.below bel) bel.size (by omega)).mono ?_
  rintro e u4 ⟨AX0, nX0, cX0, rfl, X0, hb4, qX0⟩
  have bel := bel_step bel hb4
  have sz4 := hb4.size
  have Wr := Wr.go hb4
  have X00 := X0
  have eX0 : nX0 ≤ 1048576 := by have := X0.len; have := r0.len; omega
  go_wp2_with fail
  refine (toIntS_c _ _ _ _ _ _ (r1.below bel) bel.size (by omega)).mono ?_
  rintro e u5 ⟨AX1, nX1, cX1, rfl, X1, hb5, qX1⟩
  have bel := bel_step bel hb5
  have sz5 := hb5.size
  have Wr := Wr.go hb5
  have X0 := X0.go hb5
  have X10 := X1
  have eX1 : nX1 ≤ 1048576 := by have := X1.len; have := r1.len; omega
  go_wp2_with fail
  refine (implPolySum_c _ _ _ _ _ _ _ _ _ X0.rd eX0 X1.rd eX1).mono ?_
  rintro e u6 ⟨AGr, nGr, cGr, rfl, Gr, hb6, qGr⟩
  have bel := bel_step bel hb6
  have sz6 := hb6.size
  have Wr := Wr.go hb6
  have X0 := X0.go hb6
  have X1 := X1.go hb6
  have Gr0 := Gr
  go_wp2_with fail
  refine (eqIntS_c _ _ _ _ _ _ _ _ _ _ Gr.rd Wr.rd).mono ?_
  rintro e u7 ⟨rfl, hb7⟩
  have bel := bel_step bel hb7
  have sz7 := hb7.size
  have Wr := Wr.go hb7
  have X0 := X0.go hb7
  have X1 := X1.go hb7
  have Gr := Gr.go hb7
  go_wp2_with fail
  refine (toIntS_c _ _ _ _ _ _ (r0.below bel) bel.size (by omega)).mono ?_
  rintro e u8 ⟨AY0, nY0, cY0, rfl, Y0, hb8, qY0⟩
  have bel := bel_step bel hb8
  have sz8 := hb8.size
  have Wr := Wr.go hb8
  have X0 := X0.go hb8
  have X1 := X1.go hb8
  have Gr := Gr.go hb8
  have Y00 := Y0
  have eY0 : nY0 ≤ 1048576 := by have := Y0.len; have := r0.len; omega
  go_wp2_with fail
  refine (eqIntS_c _ _ _ _ _ _ _ _ _ _ X0.rd Y0.rd).mono ?_
  rintro e u9 ⟨rfl, hb9⟩
  have bel := bel_step bel hb9
  have sz9 := hb9.size
  have Wr := Wr.go hb9
  have X0 := X0.go hb9
  have X1 := X1.go hb9
  have Gr := Gr.go hb9
  have Y0 := Y0.go hb9
  go_wp2_with fail
  refine (toIntS_c _ _ _ _ _ _ (r1.below bel) bel.size (by omega)).mono ?_
  rintro e u10 ⟨AY1, nY1, cY1, rfl, Y1, hb10, qY1⟩
  have bel := bel_step bel hb10
  have sz10 := hb10.size
  have Wr := Wr.go hb10
  have X0 := X0.go hb10
  have X1 := X1.go hb10
  have Gr := Gr.go hb10
  have Y10 := Y1
  have eY1 : nY1 ≤ 1048576 := by have := Y1.len; have := r1.len; omega
  go_wp2_with fail
  refine (eqIntS_c _ _ _ _ _ _ _ _ _ _ X1.rd Y1.rd).mono ?_
  rintro e u11 ⟨rfl, hb11⟩
  have bel := bel_step bel hb11
  have sz11 := hb11.size
  have Wr := Wr.go hb11
  have X0 := X0.go hb11
  have X1 := X1.go hb11
  have Gr := Gr.go hb11
  have Y1 := Y1.go hb11
  go_wp2_with fail
  refine (markIntS_c _ _ _ _ _ _ _ X0 (by omega) (by omega) (by omega)).mono ?_
  rintro e u12 ⟨rfl, X0, hg12⟩
  have bel := bel.grown hg12 bel.size fun g hg => by have := (X00.lt g hg).1; omega
  have sz12 := hg12.size
  have Wr := Wr.kept hg12 (own_ne Wr0 X00 (by omega))
  have X1 := X1.kept hg12 (own_ne' X00 X10 (by omega))
  have Gr := Gr.kept hg12 (own_ne' X00 Gr0 (by omega))
  go_wp2_with fail
  refine (markIntS_c _ _ _ _ _ _ _ X1 (by omega) (by omega) (by omega)).mono ?_
  rintro e u13 ⟨rfl, X1, hg13⟩
  have bel := bel.grown hg13 bel.size fun g hg => by have := (X10.lt g hg).1; omega
  have sz13 := hg13.size
  have Wr := Wr.kept hg13 (own_ne Wr0 X10 (by omega))
  have X0 := X0.kept hg13 (own_ne X00 X10 (by omega))
  have Gr := Gr.kept hg13 (own_ne' X10 Gr0 (by omega))
  go_wp2_with fail
  refine (eqIntS_c _ _ _ _ _ _ _ _ _ _ Gr.rd Wr.rd).mono ?_
  rintro e u14 ⟨rfl, hb14⟩
  have bel := bel_step bel hb14
  have sz14 := hb14.size
  have Wr := Wr.go hb14
  have X0 := X0.go hb14
  have X1 := X1.go hb14
  have Gr := Gr.go hb14
  go_wp2_with fail
  refine (markIntS_c _ _ _ _ _ _ _ Gr (by omega) (by omega) (by omega)).mono ?_
  rintro e u15 ⟨rfl, Gr, hg15⟩
  have bel := bel.grown hg15 bel.size fun g hg => by have := (Gr0.lt g hg).1; omega
  have sz15 := hg15.size
  have Wr := Wr.kept hg15 (own_ne Wr0 Gr0 (by omega))
  go_wp2_with fail
  refine (heldIntS_c _ _ _ _ _ _ Gr.rd (by omega) (by omega) (by omega)).mono ?_
  rintro e u16 ⟨rfl, hb16⟩
  have bel := bel_step bel hb16
  have sz16 := hb16.size
  have Wr := Wr.go hb16
  have Gr := Gr.go hb16
  go_wp2_with fail
  refine (toIntS_c _ _ _ _ _ _ (r0.below bel) bel.size (by omega)).mono ?_
  rintro e u17 ⟨AZ0, nZ0, cZ0, rfl, Z0, hb17, qZ0⟩
  have bel := bel_step bel hb17
  have sz17 := hb17.size
  have Wr := Wr.go hb17
  have Gr := Gr.go hb17
  have Z00 := Z0
  have eZ0 : nZ0 ≤ 1048576 := by have := Z0.len; have := r0.len; omega
  go_wp2_with fail
  refine (toIntS_c _ _ _ _ _ _ (r1.below bel) bel.size (by omega)).mono ?_
  rintro e u18 ⟨AZ1, nZ1, cZ1, rfl, Z1, hb18, qZ1⟩
  have bel := bel_step bel hb18
  have sz18 := hb18.size
  have Wr := Wr.go hb18
  have Gr := Gr.go hb18
  have Z0 := Z0.go hb18
  have Z10 := Z1
  have eZ1 : nZ1 ≤ 1048576 := by have := Z1.len; have := r1.len; omega
  go_wp2_with fail
  refine (implPolySum_c _ _ _ _ _ _ _ _ _ Z0.rd eZ0 Z1.rd eZ1).mono ?_
  rintro e u19 ⟨AHr, nHr, cHr, rfl, Hr, hb19, qHr⟩
  have bel := bel_step bel hb19
  have sz19 := hb19.size
  have Wr := Wr.go hb19
  have Gr := Gr.go hb19
  have Z0 := Z0.go hb19
  have Z1 := Z1.go hb19
  have Hr0 := Hr
  go_wp2_with fail
  refine (eqIntS_c _ _ _ _ _ _ _ _ _ _ Hr.rd Wr.rd).mono ?_
  rintro e u20 ⟨rfl, hb20⟩
  have bel := bel_step bel hb20
  have sz20 := hb20.size
  have Wr := Wr.go hb20
  have Gr := Gr.go hb20
  have Hr := Hr.go hb20
  go_wp2_with fail
  refine (heldIntS_c _ _ _ _ _ _ Gr.rd (by omega) (by omega) (by omega)).mono ?_
  rintro e u21 ⟨rfl, hb21⟩
  have bel := bel_step bel hb21
  have sz21 := hb21.size
  have Wr := Wr.go hb21
  have Gr := Gr.go hb21
  have Hr := Hr.go hb21
  go_wp2_with fail
  go_ret
  exact ⟨rfl, bel⟩
end Go.Proofs.Ythhgakojkcmoiaa
