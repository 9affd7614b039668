/- Fractions: tests, rounding, comparing, making; both packages' functions against plain ones. -/
import Derived.Test.YtbmnighaphbbgaaFrac2
namespace Go.Proofs.Ytbmnighaphbbgaa
open Go.RowKit
theorem implIsFrac_c (a b : Int) (w : World) : Calls Try.prog 16 #[.agg #[.int .i64 a, .int .i64 b]] w fun e w' => e = .returned (.bool (isFr a b)) ∧ Below w.heap.size w w' := by
  go_enter Try.func16, Try.ntmps16
  go_wp2_with fail
  refine (isFrac_c _ _ _).mono ?_; rintro e w1 ⟨rfl, hb⟩
  go_wp2_with fail
  go_ret
  exact ⟨rfl, bel_step (bel_new _ _) hb⟩
theorem specIsFrac_c (a b : Int) (w : World) : Calls Try.prog 14 #[.agg #[.int .i64 a, .int .i64 b]] w fun e w' => e = .returned (.bool (isFr a b)) ∧ Below w.heap.size w w' := by
  go_enter Try.func14, Try.ntmps14
  go_wp2_with fail
  refine (frGood_c _ _ _).mono ?_; rintro e w1 ⟨rfl, hb⟩
  go_wp2_with fail
  go_ret
  exact ⟨rfl, bel_step (bel_new _ _) hb⟩
/- Rounding -/
theorem frFloor_c (a b : Int) (w : World) (hb : 1 ≤ b) (h1 : -1000000000 ≤ a) (h2 : a ≤ 1000000000) :
    Calls Try.prog 44 #[.int .i64 a, .int .i64 b] w fun e w' => e = .returned (.int .i64 (a / b)) ∧ w = w' := by
  have td := tdiv_bd (x := a) (y := b) (by omega) h1 h2
  by_cases ha : a < 0
  · cases hm : (a.tmod b != 0)
    · have hm0 : a.tmod b = 0 := by simpa using hm
      have H := Lib.hid (floor_pos hb (by omega : 0 ≤ a.tmod b))
      go_enter Try.func44, Try.ntmps44
      go_wp2_with fail
      go_ret
      exact ⟨retI H.out, rfl⟩
    · have hm0 : a.tmod b ≠ 0 := by simpa using hm
      have H := Lib.hid (floor_neg hb ((tmod_neg_iff hb).2 ⟨ha, hm0⟩))
      go_enter Try.func44, Try.ntmps44
      go_wp2_with fail
      go_ret
      exact ⟨retI H.out, rfl⟩
  · have h0 : 0 ≤ a := by omega
    have H := Lib.hid (floor_pos hb (Int.tmod_nonneg b h0))
    go_enter Try.func44, Try.ntmps44
    go_wp2_with fail
    go_ret
    exact ⟨retI (by first | exact H.out | rfl), rfl⟩
theorem floor_c (a b : Int) (w : World) (hb : 1 ≤ b) (h1 : -1000000000 ≤ a) (h2 : a ≤ 1000000000) :
    Calls Try.prog 45 #[.agg #[.int .i64 a, .int .i64 b]] w fun e w' => e = .returned (.int .i64 (a / b)) ∧ Below w.heap.size w w' := by
  have td := tdiv_bd (x := a) (y := b) (by omega) h1 h2
  by_cases ha : 0 ≤ a
  · have hm : 0 ≤ a % b := Int.emod_nonneg a (by omega)
    have H := Lib.hid (floor_pos hb (Int.tmod_nonneg b ha))
    go_enter Try.func45, Try.ntmps45
    go_wp2_with fail
    go_ret
    exact ⟨retI (by first | exact H.out | rfl), bel_new _ _⟩
  · by_cases hm : a.tmod b < 0
    · have H := Lib.hid (floor_neg hb hm)
      go_enter Try.func45, Try.ntmps45
      go_wp2_with fail
      go_ret
      exact ⟨retI H.out, bel_new _ _⟩
    · have H := Lib.hid (floor_pos hb (by omega : 0 ≤ a.tmod b))
      go_enter Try.func45, Try.ntmps45
      go_wp2_with fail
      go_ret
      exact ⟨retI H.out, bel_new _ _⟩
theorem ceil_c (a b : Int) (w : World) (hb : 1 ≤ b) (h1 : -1000000000 ≤ a) (h2 : a ≤ 1000000000) :
    Calls Try.prog 46 #[.agg #[.int .i64 a, .int .i64 b]] w fun e w' => e = .returned (.int .i64 (-((-a) / b))) ∧ Below w.heap.size w w' := by
  have td := floor_bd (a := -a) hb (by omega) (by omega)
  go_enter Try.func46, Try.ntmps46
  go_wp2_with fail
  refine (floor_c _ _ _ hb (by omega) (by omega)).mono ?_; rintro e w1 ⟨rfl, hb1⟩
  go_wp2_with fail
  go_ret
  exact ⟨retI rfl, bel_step (bel_new _ _) hb1⟩
theorem specFloorFrac_c (a b : Int) (w : World) : Calls Try.prog 17 #[.agg #[.int .i64 a, .int .i64 b]] w fun e w' => e = .returned (.tuple #[.int .i64 (pFloor a b).1, .bool (pFloor a b).2]) ∧ Below w.heap.size w w' := by
  cases h : isFr a b
  · have HP : Hid (pFloor a b = (0, false)) := Lib.hid (by rw [pFloor, h]; rfl)
    have H := Lib.hid h
    clear h
    go_enter Try.func17, Try.ntmps17
    go_wp2_with fail
    refine (frGood_c _ _ _).mono ?_; rw [H.out]; rintro e w1 ⟨rfl, hb⟩
    go_wp2_with fail
    go_ret2
    exact ⟨by rw [HP.out]; rfl, bel_step (bel_new _ _) hb⟩
  · have HP : Hid (pFloor a b = (a / b, true)) := Lib.hid (by rw [pFloor, h]; rfl)
    have hbd := isFr_bd h
    have td := floor_bd (a := -a) (b := b) (by omega) (by omega) (by omega)
    have H := Lib.hid h
    clear h
    go_enter Try.func17, Try.ntmps17
    go_wp2_with fail
    refine (frGood_c _ _ _).mono ?_; rw [H.out]; rintro e w1 ⟨rfl, hb⟩
    have P := (Bx.new w [.int .i64 a, .int .i64 b] 25).go hb
    have hp0 := P.at0
    have hp1 := P.at1
    go_wp2_with fail
    refine (frFloor_c _ _ _ (by omega) (by omega) (by omega)).mono ?_; rintro e w2 ⟨rfl, rfl⟩
    have tf := floor_bd (a := a) (b := b) (by omega) (by omega) (by omega)
    go_wp2_with fail
    go_ret2
    exact ⟨by rw [HP.out]; rfl, bel_step (bel_new _ _) hb⟩
theorem implFloorFrac_c (a b : Int) (w : World) : Calls Try.prog 18 #[.agg #[.int .i64 a, .int .i64 b]] w fun e w' => e = .returned (.tuple #[.int .i64 (pFloor a b).1, .bool (pFloor a b).2]) ∧ Below w.heap.size w w' := by
  cases h : isFr a b
  · have HP : Hid (pFloor a b = (0, false)) := Lib.hid (by rw [pFloor, h]; rfl)
    have H := Lib.hid h
    clear h
    go_enter Try.func18, Try.ntmps18
    go_wp2_with fail
    refine (isFrac_c _ _ _).mono ?_; rw [H.out]; rintro e w1 ⟨rfl, hb⟩
    go_wp2_with fail
    go_ret2
    exact ⟨by rw [HP.out]; rfl, bel_step (bel_new _ _) hb⟩
  · have HP : Hid (pFloor a b = (a / b, true)) := Lib.hid (by rw [pFloor, h]; rfl)
    have hbd := isFr_bd h
    have H := Lib.hid h
    clear h
    go_enter Try.func18, Try.ntmps18
    go_wp2_with fail
    refine (isFrac_c _ _ _).mono ?_; rw [H.out]; rintro e w1 ⟨rfl, hb⟩
    have P := (Bx.new w [.int .i64 a, .int .i64 b] 25).go hb
    have hp0 := P.at0
    have hp1 := P.at1
    go_wp2_with fail
    refine (floor_c _ _ _ (by omega) (by omega) (by omega)).mono ?_; rintro e w2 ⟨rfl, hb2⟩
    go_wp2_with fail
    go_ret2
    exact ⟨by rw [HP.out]; rfl, bel_step (bel_step (bel_new _ _) hb) hb2⟩
theorem specCeilFrac_c (a b : Int) (w : World) : Calls Try.prog 19 #[.agg #[.int .i64 a, .int .i64 b]] w fun e w' => e = .returned (.tuple #[.int .i64 (pCeil a b).1, .bool (pCeil a b).2]) ∧ Below w.heap.size w w' := by
  cases h : isFr a b
  · have HP : Hid (pCeil a b = (0, false)) := Lib.hid (by rw [pCeil, h]; rfl)
    have H := Lib.hid h
    clear h
    go_enter Try.func19, Try.ntmps19
    go_wp2_with fail
    refine (frGood_c _ _ _).mono ?_; rw [H.out]; rintro e w1 ⟨rfl, hb⟩
    go_wp2_with fail
    go_ret2
    exact ⟨by rw [HP.out]; rfl, bel_step (bel_new _ _) hb⟩
  · have HP : Hid (pCeil a b = (-((-a) / b), true)) := Lib.hid (by rw [pCeil, h]; rfl)
    have hbd := isFr_bd h
    have td := floor_bd (a := -a) (b := b) (by omega) (by omega) (by omega)
    have H := Lib.hid h
    clear h
    go_enter Try.func19, Try.ntmps19
    go_wp2_with fail
    refine (frGood_c _ _ _).mono ?_; rw [H.out]; rintro e w1 ⟨rfl, hb⟩
    have P := (Bx.new w [.int .i64 a, .int .i64 b] 25).go hb
    have hp0 := P.at0
    have hp1 := P.at1
    go_wp2_with fail
    refine (frFloor_c _ _ _ (by omega) (by omega) (by omega)).mono ?_; rintro e w2 ⟨rfl, rfl⟩
    go_wp2_with fail
    go_ret2
    exact ⟨by rw [HP.out]; rfl, bel_step (bel_new _ _) hb⟩
theorem implCeilFrac_c (a b : Int) (w : World) : Calls Try.prog 20 #[.agg #[.int .i64 a, .int .i64 b]] w fun e w' => e = .returned (.tuple #[.int .i64 (pCeil a b).1, .bool (pCeil a b).2]) ∧ Below w.heap.size w w' := by
  cases h : isFr a b
  · have HP : Hid (pCeil a b = (0, false)) := Lib.hid (by rw [pCeil, h]; rfl)
    have H := Lib.hid h
    clear h
    go_enter Try.func20, Try.ntmps20
    go_wp2_with fail
    refine (isFrac_c _ _ _).mono ?_; rw [H.out]; rintro e w1 ⟨rfl, hb⟩
    go_wp2_with fail
    go_ret2
    exact ⟨by rw [HP.out]; rfl, bel_step (bel_new _ _) hb⟩
  · have HP : Hid (pCeil a b = (-((-a) / b), true)) := Lib.hid (by rw [pCeil, h]; rfl)
    have hbd := isFr_bd h
    have H := Lib.hid h
    clear h
    go_enter Try.func20, Try.ntmps20
    go_wp2_with fail
    refine (isFrac_c _ _ _).mono ?_; rw [H.out]; rintro e w1 ⟨rfl, hb⟩
    have P := (Bx.new w [.int .i64 a, .int .i64 b] 25).go hb
    have hp0 := P.at0
    have hp1 := P.at1
    go_wp2_with fail
    refine (ceil_c _ _ _ (by omega) (by omega) (by omega)).mono ?_; rintro e w2 ⟨rfl, hb2⟩
    go_wp2_with fail
    go_ret2
    exact ⟨by rw [HP.out]; rfl, bel_step (bel_step (bel_new _ _) hb) hb2⟩
/- Comparing -/
theorem l1Sign_c (n : Int) (w : World) : Calls Try.prog 75 #[.int .i64 n] w fun e w' => e = .returned (.int .i64 (sgn n)) ∧ w = w' := by
  rcases (show n < 0 ∨ n = 0 ∨ 0 < n by omega) with h | h | h
  · have H : Hid (sgn n = -1) := Lib.hid (by rw [sgn, if_pos h])
    go_enter Try.func75, Try.ntmps75
    go_wp2_with fail
    go_ret
    exact ⟨retI H.out.symm, rfl⟩
  · have H : Hid (sgn n = 0) := Lib.hid (by rw [sgn, if_neg (by omega), if_neg (by omega)])
    have h1 : ¬ n < 0 := by omega
    have h2 : ¬ 0 < n := by omega
    clear h
    go_enter Try.func75, Try.ntmps75
    go_wp2_with fail
    go_ret
    exact ⟨retI H.out.symm, rfl⟩
  · have H : Hid (sgn n = 1) := Lib.hid (by rw [sgn, if_neg (by omega), if_pos h])
    go_enter Try.func75, Try.ntmps75
    go_wp2_with fail
    go_ret
    exact ⟨retI H.out.symm, rfl⟩
theorem frCmp_c (a b c d : Int) (w : World) (h : (-1000000000 ≤ a ∧ a ≤ 1000000000 ∧ 1 ≤ b ∧ b ≤ 1000000000) ∧ -1000000000 ≤ c ∧ c ≤ 1000000000 ∧ 1 ≤ d ∧ d ≤ 1000000000) :
    Calls Try.prog 48 #[.agg #[.int .i64 a, .int .i64 b], .agg #[.int .i64 c, .int .i64 d]] w fun e w' => e = .returned (.int .i64 (sgn (a * d - c * b))) ∧ Below w.heap.size w w' := by
  obtain ⟨⟨p1, p2⟩, ⟨p3, p4⟩, _⟩ := prods h
  go_enter Try.func48, Try.ntmps48
  go_wp2_with fail
  refine (l1Sign_c _ _).mono ?_; rintro e w1 ⟨rfl, rfl⟩
  go_wp2_with fail
  go_ret
  exact ⟨rfl, bel_alloc (bel_new _ _) _⟩
theorem compare_c (a b c d : Int) (w : World) (h : (-1000000000 ≤ a ∧ a ≤ 1000000000 ∧ 1 ≤ b ∧ b ≤ 1000000000) ∧ -1000000000 ≤ c ∧ c ≤ 1000000000 ∧ 1 ≤ d ∧ d ≤ 1000000000) :
    Calls Try.prog 50 #[.agg #[.int .i64 a, .int .i64 b], .agg #[.int .i64 c, .int .i64 d]] w fun e w' => e = .returned (.int .i64 (sgn (a * d - c * b))) ∧ Below w.heap.size w w' := by
  obtain ⟨⟨p1, p2⟩, ⟨p3, p4⟩, _⟩ := prods h
  rcases (show a * d - c * b < 0 ∨ a * d - c * b = 0 ∨ 0 < a * d - c * b by omega) with g | g | g
  · have H : Hid (sgn (a * d - c * b) = -1) := Lib.hid (by rw [sgn, if_pos g])
    go_enter Try.func50, Try.ntmps50
    go_wp2_with fail
    go_ret
    exact ⟨retI H.out.symm, bel_alloc (bel_new _ _) _⟩
  · have H : Hid (sgn (a * d - c * b) = 0) := Lib.hid (by rw [sgn, if_neg (by omega), if_neg (by omega)])
    have h1 : ¬ a * d - c * b < 0 := by omega
    have h2 : ¬ 0 < a * d - c * b := by omega
    clear g
    go_enter Try.func50, Try.ntmps50
    go_wp2_with fail
    go_ret
    exact ⟨retI H.out.symm, bel_alloc (bel_new _ _) _⟩
  · have H : Hid (sgn (a * d - c * b) = 1) := Lib.hid (by rw [sgn, if_neg (by omega), if_pos g])
    go_enter Try.func50, Try.ntmps50
    go_wp2_with fail
    go_ret
    exact ⟨retI H.out.symm, bel_alloc (bel_new _ _) _⟩
theorem specCompareFracs_c (a b c d : Int) (w : World) :
    Calls Try.prog 21 #[.agg #[.int .i64 a, .int .i64 b], .agg #[.int .i64 c, .int .i64 d]] w fun e w' => e = .returned (.tuple #[.int .i64 (pCmp a b c d).1, .bool (pCmp a b c d).2]) ∧ Below w.heap.size w w' := by
  have X := bx2 w [.int .i64 a, .int .i64 b] [.int .i64 c, .int .i64 d] 25 25
  cases h : twoFr a b c d
  · have HP : Hid (pCmp a b c d = (0, false)) := Lib.hid (by rw [pCmp, h]; rfl)
    have H := Lib.hid h
    clear h
    go_enter Try.func21, Try.ntmps21
    go_wp2_with fail
    refine (frTwo_c _ _ _ _ _).mono ?_; rw [H.out]; rintro e w1 ⟨rfl, hb⟩
    go_wp2_with fail
    go_ret2
    exact ⟨by rw [HP.out]; rfl, bel_step (bel_alloc (bel_new _ _) _) hb⟩
  · have HP : Hid (pCmp a b c d = (sgn (a * d - c * b), true)) := Lib.hid (by rw [pCmp, h]; rfl)
    have hbd := twoFr_bd h
    have H := Lib.hid h
    clear h
    go_enter Try.func21, Try.ntmps21
    go_wp2_with fail
    refine (frTwo_c _ _ _ _ _).mono ?_; rw [H.out]; rintro e w1 ⟨rfl, hb⟩
    have P := X.1.go hb
    have Q := X.2.go hb
    clear X
    have hp0 := P.at0
    have hp1 := P.at1
    have hq0 := Q.at0
    have hq1 := Q.at1
    go_wp2_with fail
    refine (frCmp_c _ _ _ _ _ hbd).mono ?_; rintro e w2 ⟨rfl, hb2⟩
    go_wp2_with fail
    go_ret2
    exact ⟨by rw [HP.out]; rfl, bel_step (bel_step (bel_alloc (bel_new _ _) _) hb) hb2⟩
theorem implCompareFracs_c (a b c d : Int) (w : World) :
    Calls Try.prog 22 #[.agg #[.int .i64 a, .int .i64 b], .agg #[.int .i64 c, .int .i64 d]] w fun e w' => e = .returned (.tuple #[.int .i64 (pCmp a b c d).1, .bool (pCmp a b c d).2]) ∧ Below w.heap.size w w' := by
  have X := bx2 w [.int .i64 a, .int .i64 b] [.int .i64 c, .int .i64 d] 25 25
  have S := Bx.new ((w.alloc (.cells #[.int .i64 a, .int .i64 b] 25)).alloc (.cells #[.int .i64 c, .int .i64 d] 25)) [.int .i64 a, .int .i64 b, .int .i64 c, .int .i64 d] 25
  cases h : twoFr a b c d
  · have HP : Hid (pCmp a b c d = (0, false)) := Lib.hid (by rw [pCmp, h]; rfl)
    have H := Lib.hid h
    clear h
    go_enter Try.func22, Try.ntmps22
    go_wp2_with fail
    refine (areFracs_c _ _ _ _ _ _ (by simpa using S)).mono ?_; rw [H.out]; rintro e w1 ⟨rfl, hb⟩
    go_wp2_with fail
    go_ret2
    exact ⟨by rw [HP.out]; rfl, bel_step (bel_alloc (bel_alloc (bel_new _ _) _) _) hb⟩
  · have HP : Hid (pCmp a b c d = (sgn (a * d - c * b), true)) := Lib.hid (by rw [pCmp, h]; rfl)
    have hbd := twoFr_bd h
    have H := Lib.hid h
    clear h
    go_enter Try.func22, Try.ntmps22
    go_wp2_with fail
    refine (areFracs_c _ _ _ _ _ _ (by simpa using S)).mono ?_; rw [H.out]; rintro e w1 ⟨rfl, hb⟩
    have P := (X.1.alloc _).go hb
    have Q := (X.2.alloc _).go hb
    clear X S
    have hp0 := P.at0
    have hp1 := P.at1
    have hq0 := Q.at0
    have hq1 := Q.at1
    go_wp2_with fail
    refine (compare_c _ _ _ _ _ hbd).mono ?_; rintro e w2 ⟨rfl, hb2⟩
    go_wp2_with fail
    go_ret2
    exact ⟨by rw [HP.out]; rfl, bel_step (bel_step (bel_alloc (bel_alloc (bel_new _ _) _) _) hb) hb2⟩
/- Making -/
theorem specFracOf_c (n d : Int) (w : World) :
    Calls Try.prog 23 #[.int .i64 n, .int .i64 d] w fun e w' => e = .returned (.tuple #[.agg #[.int .i64 (pFracOf n d).1.1, .int .i64 (pFracOf n d).1.2], .bool (pFracOf n d).2]) ∧ Below w.heap.size w w' := by
  have X := Bx.new w [.int .i64 0, .int .i64 0] 25
  cases h1 : (decide (-1000000000000 ≤ n) && decide (n ≤ 1000000000000)) <;> cases h2 : (decide (-1000000000000 ≤ d) && decide (d ≤ 1000000000000))
  case true.true =>
    have hn : -1000000000000 ≤ n ∧ n ≤ 1000000000000 := by simpa using h1
    have hd : -1000000000000 ≤ d ∧ d ≤ 1000000000000 := by simpa using h2
    have HP : Hid (pFracOf n d = mkFr n d) := Lib.hid (by rw [pFracOf, decide_eq_true (by omega)]; rfl)
    have H1 := Lib.hid h1
    have H2 := Lib.hid h2
    clear h1 h2
    go_enter Try.func23, Try.ntmps23
    go_wp2_with (first
      | (go_at_call 51; refine (l1In_c _ _ _ _).mono ?_; (first | rw [H1.out] | rw [H2.out]); rintro e w' ⟨rfl, rfl⟩))
    refine (frMake_c _ _ _ (by omega) (by omega) (by omega) (by omega)).mono ?_; rintro e w1 ⟨rfl, hb⟩
    have bel := bel_step (bel_new _ _) hb
    have R := X.go hb
    clear X
    have hr0 := R.at0
    have hr1 := R.at1
    have hf0 := R.fz 0
    have hf1 := R.fz 1
    go_wp2_with fail
    refine bodyPost_ret (v := .tuple #[.agg #[.int .i64 (mkFr n d).1.1, .int .i64 (mkFr n d).1.2], .bool (mkFr n d).2]) (by simp [results, Try.results23, go_sem, *]) rfl ⟨?_, ?_⟩
    · rw [HP.out]
    · (repeat (first | exact bel | refine Below.drew ?_ | refine bel_set ?_ (by first | exact Nat.le_refl _ | (dsimp only; omega) | omega) _ | refine bel_alloc ?_ _))
  all_goals
    have HP : Hid (pFracOf n d = ((0, 0), false)) := Lib.hid (by
      rw [pFracOf, decide_eq_false (by simp only [Bool.and_eq_true, Bool.and_eq_false_iff, decide_eq_true_eq, decide_eq_false_iff_not] at h1 h2; omega)]; rfl)
    have H1 := Lib.hid h1
    have H2 := Lib.hid h2
    clear h1 h2
    have hr0 := X.at0
    have hr1 := X.at1
    have hf0 := X.fz 0
    have hf1 := X.fz 1
    have bel := Below.refl w.heap.size w
    go_enter Try.func23, Try.ntmps23
    go_wp2_with (first
      | (go_at_call 51; refine (l1In_c _ _ _ _).mono ?_; (first | rw [H1.out] | rw [H2.out]); rintro e w' ⟨rfl, rfl⟩))
    refine bodyPost_ret (v := .tuple #[.agg #[.int .i64 0, .int .i64 0], .bool false]) (by simp [results, Try.results23, go_sem, *]) rfl ⟨?_, ?_⟩
    · rw [HP.out]
    · (repeat (first | exact bel | refine Below.drew ?_ | refine bel_set ?_ (by first | exact Nat.le_refl _ | (dsimp only; omega) | omega) _ | refine bel_alloc ?_ _))
theorem implFracOf_c (n d : Int) (w : World) :
    Calls Try.prog 24 #[.int .i64 n, .int .i64 d] w fun e w' => e = .returned (.tuple #[.agg #[.int .i64 (pFracOf n d).1.1, .int .i64 (pFracOf n d).1.2], .bool (pFracOf n d).2]) ∧ Below w.heap.size w w' := by
  have X := Bx.new w [.int .i64 0, .int .i64 0] 25
  cases h1 : (decide (-1000000000000 ≤ n) && decide (n ≤ 1000000000000)) <;> cases h2 : (decide (-1000000000000 ≤ d) && decide (d ≤ 1000000000000)) <;> cases h3 : (d == 0)
  case true.true.false =>
    have hn : -1000000000000 ≤ n ∧ n ≤ 1000000000000 := by simpa using h1
    have hd : -1000000000000 ≤ d ∧ d ≤ 1000000000000 := by simpa using h2
    have hne : d ≠ 0 := beq_eq_false_iff_ne.1 h3
    have HP0 := mkFr_if (n := n) hne
    have e : pFracOf n d = mkFr n d := by rw [pFracOf, decide_eq_true (by omega)]; rfl
    rw [← e] at HP0
    have HP := Lib.hid HP0
    have H1 := Lib.hid h1
    have H2 := Lib.hid h2
    clear h1 h2 HP0 e
    go_enter Try.func24, Try.ntmps24
    go_wp2_with (first
      | (go_at_call 53; refine (within_c _ _ _ _).mono ?_; (first | rw [H1.out] | rw [H2.out]); rintro e w' ⟨rfl, rfl⟩))
    refine (lowest_c _ _ _ hne (by omega) (by omega) (by omega) (by omega)).mono ?_; rintro e w1 ⟨rfl, hb⟩
    have bel := bel_step (bel_new _ _) hb
    have R := X.go hb
    clear X
    go_wp2_with fail
    refine (toldFrac_c _ _ _).mono ?_; rintro e w3 ⟨rfl, hb3⟩
    have bel := bel_step bel hb3
    have R := R.go hb3
    have hr0 := R.at0
    have hr1 := R.at1
    have hf0 := R.fz 0
    have hf1 := R.fz 1
    go_wp2_with fail
    refine bodyPost_ret (v := .tuple #[.agg #[.int .i64 (okN (lowN n d) (lowD n d)), .int .i64 (okD (lowN n d) (lowD n d))], .bool (isFr (lowN n d) (lowD n d))]) (by simp [results, Try.results24, go_sem, *]) rfl ⟨?_, ?_⟩
    · rw [HP.out]
    · (repeat (first | exact bel | refine Below.drew ?_ | refine bel_set ?_ (by first | exact Nat.le_refl _ | (dsimp only; omega) | omega) _ | refine bel_alloc ?_ _))
  all_goals
    have HP : Hid (pFracOf n d = ((0, 0), false)) := Lib.hid (by
      first
        | (rw [beq_iff_eq.1 h3, pFracOf, mkFr_zero]; split <;> rfl)
        | (rw [pFracOf, decide_eq_false (by simp only [Bool.and_eq_true, Bool.and_eq_false_iff, decide_eq_true_eq, decide_eq_false_iff_not] at h1 h2; omega)]; rfl))
    have H1 := Lib.hid h1
    have H2 := Lib.hid h2
    clear h1 h2
    have hr0 := X.at0
    have hr1 := X.at1
    have hf0 := X.fz 0
    have hf1 := X.fz 1
    have bel := Below.refl w.heap.size w
    go_enter Try.func24, Try.ntmps24
    go_wp2_with (first
      | (go_at_call 53; refine (within_c _ _ _ _).mono ?_; (first | rw [H1.out] | rw [H2.out]); rintro e w' ⟨rfl, rfl⟩))
    refine bodyPost_ret (v := .tuple #[.agg #[.int .i64 0, .int .i64 0], .bool false]) (by simp [results, Try.results24, go_sem, *]) rfl ⟨?_, ?_⟩
    · rw [HP.out]
    · (repeat (first | exact bel | refine Below.drew ?_ | refine bel_set ?_ (by first | exact Nat.le_refl _ | (dsimp only; omega) | omega) _ | refine bel_alloc ?_ _))
theorem implDivideFracs_c (a b c d : Int) (w : World) :
    Calls Try.prog 29 #[.agg #[.int .i64 a, .int .i64 b], .agg #[.int .i64 c, .int .i64 d]] w fun e w' =>
      e = .returned (.tuple #[.agg #[.int .i64 (pDiv a b c d).1.1, .int .i64 (pDiv a b c d).1.2], .bool (pDiv a b c d).2]) ∧ Below w.heap.size w w' := by
  have X := bx3 w [.int .i64 a, .int .i64 b] [.int .i64 c, .int .i64 d] [.int .i64 0, .int .i64 0] 25 25 25
  have S := Bx.new (((w.alloc (.cells #[.int .i64 a, .int .i64 b] 25)).alloc (.cells #[.int .i64 c, .int .i64 d] 25)).alloc (.cells #[.int .i64 0, .int .i64 0] 25)) [.int .i64 a, .int .i64 b, .int .i64 c, .int .i64 d] 25
  cases h : twoFr a b c d
  · have HP : Hid (pDiv a b c d = ((0, 0), false)) := Lib.hid (by rw [pDiv, h]; rfl)
    have H := Lib.hid h
    clear h
    go_enter Try.func29, Try.ntmps29
    go_wp2_with fail
    refine (areFracs_c _ _ _ _ _ _ (by simpa using S)).mono ?_; rw [H.out]; rintro e w1 ⟨rfl, hb⟩
    have bel := bel_step (bel_alloc (bel_alloc (bel_alloc (bel_new _ _) _) _) _) hb
    have R := (X.2.2.alloc _).go hb
    clear X S
    have hr0 := R.at0
    have hr1 := R.at1
    have hf0 := R.fz 0
    have hf1 := R.fz 1
    go_wp2_with fail
    refine bodyPost_ret (v := .tuple #[.agg #[.int .i64 0, .int .i64 0], .bool false]) (by simp [results, Try.results29, go_sem, *]) rfl ⟨?_, ?_⟩
    · rw [HP.out]
    · (repeat (first | exact bel | refine Below.drew ?_ | refine bel_set ?_ (by first | exact Nat.le_refl _ | (dsimp only; omega) | omega) _ | refine bel_alloc ?_ _))
  · have hbd := twoFr_bd h
    cases hz : (c == 0)
    · have hne : b * c ≠ 0 := by
        have := beq_eq_false_iff_ne.1 hz
        exact Int.mul_ne_zero (by omega) this
      have HP0 := mkFr_if (n := a * d) hne
      have e : pDiv a b c d = mkFr (a * d) (b * c) := by rw [pDiv, h]; rfl
      rw [← e] at HP0
      have HP := Lib.hid HP0
      clear e HP0
      have H := Lib.hid h
      clear h
      go_enter Try.func29, Try.ntmps29
      go_wp2_with fail
      refine (areFracs_c _ _ _ _ _ _ (by simpa using S)).mono ?_; rw [H.out]; rintro e w1 ⟨rfl, hb⟩
      have bel := bel_step (bel_alloc (bel_alloc (bel_alloc (bel_new _ _) _) _) _) hb
      have P := (X.1.alloc _).go hb
      have Q := (X.2.1.alloc _).go hb
      have R := (X.2.2.alloc _).go hb
      clear X S
      have hp0 := P.at0
      have hp1 := P.at1
      have hq0 := Q.at0
      have hq1 := Q.at1
      go_wp2_with fail
      refine (div_c _ _ _ _ _ hbd hne).mono ?_; rintro e w2 ⟨rfl, hb2⟩
      have bel := bel_step bel hb2
      have R := R.go hb2
      go_wp2_with fail
      refine (toldFrac_c _ _ _).mono ?_; rintro e w3 ⟨rfl, hb3⟩
      have bel := bel_step bel hb3
      have R := R.go hb3
      have hr0 := R.at0
      have hr1 := R.at1
      have hf0 := R.fz 0
      have hf1 := R.fz 1
      go_wp2_with fail
      refine bodyPost_ret (v := .tuple #[.agg #[.int .i64 (okN (lowN (a * d) (b * c)) (lowD (a * d) (b * c))), .int .i64 (okD (lowN (a * d) (b * c)) (lowD (a * d) (b * c)))], .bool (isFr (lowN (a * d) (b * c)) (lowD (a * d) (b * c)))]) (by simp [results, Try.results29, go_sem, *]) rfl ⟨?_, ?_⟩
      · rw [HP.out]
      · (repeat (first | exact bel | refine Below.drew ?_ | refine bel_set ?_ (by first | exact Nat.le_refl _ | (dsimp only; omega) | omega) _ | refine bel_alloc ?_ _))
    · have HP : Hid (pDiv a b c d = ((0, 0), false)) := Lib.hid (by rw [beq_iff_eq.1 hz] at h ⊢; rw [pDiv, h, if_pos rfl, Int.mul_zero]; exact mkFr_zero (a * d))
      have H := Lib.hid h
      clear h
      go_enter Try.func29, Try.ntmps29
      go_wp2_with fail
      refine (areFracs_c _ _ _ _ _ _ (by simpa using S)).mono ?_; rw [H.out]; rintro e w1 ⟨rfl, hb⟩
      have bel := bel_step (bel_alloc (bel_alloc (bel_alloc (bel_new _ _) _) _) _) hb
      have Q := (X.2.1.alloc _).go hb
      have R := (X.2.2.alloc _).go hb
      clear X S
      have hq0 := Q.at0
      have hr0 := R.at0
      have hr1 := R.at1
      have hf0 := R.fz 0
      have hf1 := R.fz 1
      go_wp2_with fail
      refine bodyPost_ret (v := .tuple #[.agg #[.int .i64 0, .int .i64 0], .bool false]) (by simp [results, Try.results29, go_sem, *]) rfl ⟨?_, ?_⟩
      · rw [HP.out]
      · (repeat (first | exact bel | refine Below.drew ?_ | refine bel_set ?_ (by first | exact Nat.le_refl _ | (dsimp only; omega) | omega) _ | refine bel_alloc ?_ _))
end Go.Proofs.Ytbmnighaphbbgaa
