/- The laws on numbers alone: the walk of each law: it returns true and turns nothing that was there. -/
import Derived.Test.YtmpeniplngfndaaNum
namespace Go.Proofs.Ytmpeniplngfndaa
open Go.RowKit
theorem walk_FnExactConstants (w : World) :
  Calls Try.prog 3 #[] w fun e w' => e = .returned (.bool true) ∧ Below w.heap.size w w' := by
  go_enter Try.func3, Try.ntmps3
  go_wp2
  go_ret
  exact ⟨rfl, Below.refl _ _⟩
theorem walk_FnExactIsNumber (a0 : Int) (w : World) (w0 : (Lit.int .i64 a0).wf = true) :
  Calls Try.prog 4 #[.int .i64 a0] w fun e w' => e = .returned (.bool true) ∧ Below w.heap.size w w' := by
  have _w := w0
  go_enter Try.func4, Try.ntmps4
  go_wp2_with (first
    | (go_at_call 15; refine (specIsNumber_c _ _).mono ?_; rintro e w' ⟨rfl, rfl⟩)
    | (go_at_call 16; refine (implIsNumber_c _ _).mono ?_; rintro e w' ⟨rfl, rfl⟩))
  go_ret
  exact ⟨rfl, Below.refl _ _⟩
theorem specTropSum_c (a b : Int) (w : World) : Calls Try.prog 20 #[.int .i64 a, .int .i64 b] w fun e w' => e = .returned (.tuple #[.int .i64 (pTropSum a b).1, .bool (pTropSum a b).2]) ∧ w = w' := by
  cases h : isNum a <;> cases h2 : isNum b
  all_goals
    have H := Lib.hid h
    have H2 := Lib.hid h2
    clear h h2
    go_enter Try.func20, Try.ntmps20
    go_wp2_with (first
      | (go_at_call 42; refine (nuGood_c _ _).mono ?_; (first | rw [H.out] | rw [H2.out]); rintro e w' ⟨rfl, rfl⟩)
      | (go_at_call 46; refine (l1Least_c _ _ _).mono ?_; rintro e w' ⟨rfl, rfl⟩))
    go_ret2
    exact ⟨retIB (by simp [pTropSum, H.out, H2.out]) (by simp [pTropSum, H.out, H2.out]), rfl⟩
theorem implTropSum_c (a b : Int) (w : World) : Calls Try.prog 21 #[.int .i64 a, .int .i64 b] w fun e w' => e = .returned (.tuple #[.int .i64 (pTropSum a b).1, .bool (pTropSum a b).2]) ∧ Below w.heap.size w w' := by
  have R := Rd.lit w [a, b] 3 (two_le _ _)
  cases h : [a, b].all isNum
  all_goals
    have H := Lib.hid h
    have H1 := Lib.hid (all_two h)
    clear h
    go_enter Try.func21, Try.ntmps21
    go_wp2_with (go_at_call 47; refine (areNumbers_c _ _ _ _ _ _ R).mono ?_; rw [H.out]; rintro e w' ⟨rfl, rfl⟩)
    all_goals
      go_ret2
      exact ⟨retIB (by simp [pTropSum, H1.out]; try omega) (by simp [pTropSum, H1.out]), bel_new _ _⟩
theorem walk_FnExactTropSum (a0 : Int) (a1 : Int) (w : World) (w0 : (Lit.int .i64 a0).wf = true) (w1 : (Lit.int .i64 a1).wf = true) :
  Calls Try.prog 6 #[.int .i64 a0, .int .i64 a1] w fun e w' => e = .returned (.bool true) ∧ Below w.heap.size w w' := by
  have _w := w0
  have _w := w1
  go_enter Try.func6, Try.ntmps6
  go_wp2_with (first
    | (go_at_call 20; refine (specTropSum_c _ _ _).mono ?_; rintro e w' ⟨rfl, rfl⟩)
    | (go_at_call 21; refine (implTropSum_c _ _ _).mono ?_; rintro e w' ⟨rfl, hb⟩))
  go_ret
  exact ⟨rfl, by assumption⟩
theorem specTropProduct_c (a b : Int) (w : World) : Calls Try.prog 24 #[.int .i64 a, .int .i64 b] w fun e w' => e = .returned (.tuple #[.int .i64 (pTropProduct a b).1, .bool (pTropProduct a b).2]) ∧ w = w' := by
  cases h : isNum a <;> cases h2 : isNum b
  case true.true =>
    have ba := isNum_bd h
    have bb := isNum_bd h2
    have H := Lib.hid h
    have H2 := Lib.hid h2
    clear h h2
    go_enter Try.func24, Try.ntmps24
    go_wp2_with (first
      | (go_at_call 42; refine (nuGood_c _ _).mono ?_; (first | rw [H.out] | rw [H2.out]); rintro e w' ⟨rfl, rfl⟩)
      | (go_at_call 53; refine (nuMul_c _ _ _ (by omega) (by omega) (by omega) (by omega)).mono ?_; rintro e w' ⟨rfl, rfl⟩))
    go_ret2
    exact ⟨retIB (by simp [pTropProduct, H.out, H2.out]) (by simp [pTropProduct, H.out, H2.out]), rfl⟩
  all_goals
    have H := Lib.hid h
    have H2 := Lib.hid h2
    clear h h2
    go_enter Try.func24, Try.ntmps24
    go_wp2_with (first
      | (go_at_call 42; refine (nuGood_c _ _).mono ?_; (first | rw [H.out] | rw [H2.out]); rintro e w' ⟨rfl, rfl⟩))
    go_ret2
    exact ⟨retIB (by simp [pTropProduct, H.out, H2.out]) (by simp [pTropProduct, H.out, H2.out]), rfl⟩
theorem implTropProduct_c (a b : Int) (w : World) : Calls Try.prog 25 #[.int .i64 a, .int .i64 b] w fun e w' => e = .returned (.tuple #[.int .i64 (pTropProduct a b).1, .bool (pTropProduct a b).2]) ∧ Below w.heap.size w w' := by
  have R := Rd.lit w [a, b] 3 (two_le _ _)
  cases h : [a, b].all isNum
  · have H := Lib.hid h
    have H1 := Lib.hid (all_two h)
    clear h
    go_enter Try.func25, Try.ntmps25
    go_wp2_with (go_at_call 47; refine (areNumbers_c _ _ _ _ _ _ R).mono ?_; rw [H.out]; rintro e w' ⟨rfl, rfl⟩)
    go_ret2
    exact ⟨retIB (by simp [pTropProduct, H1.out]) (by simp [pTropProduct, H1.out]), bel_new _ _⟩
  · have H := Lib.hid h
    have H1 := Lib.hid (all_two h)
    have hb : -1000000 ≤ a ∧ a ≤ 1000000000 ∧ -1000000 ≤ b ∧ b ≤ 1000000000 := by
      have h1 := H1.out
      simp only [Bool.and_eq_true] at h1
      have := isNum_bd h1.1
      have := isNum_bd h1.2
      omega
    clear h
    go_enter Try.func25, Try.ntmps25
    go_wp2_with (first
      | (go_at_call 47; refine (areNumbers_c _ _ _ _ _ _ R).mono ?_; rw [H.out]; rintro e w' ⟨rfl, rfl⟩)
      | (go_at_call 51; refine (product_c _ _ _ (by omega) (by omega) (by omega) (by omega)).mono ?_; rintro e w' ⟨rfl, rfl⟩)
      | (go_at_call 52; refine (told_c _ _).mono ?_; rintro e w' ⟨rfl, rfl⟩))
    go_ret2
    exact ⟨retIB (by simp [pTropProduct, H1.out]) (by simp [pTropProduct, H1.out]), bel_new _ _⟩
theorem walk_FnExactTropProduct (a0 : Int) (a1 : Int) (w : World) (w0 : (Lit.int .i64 a0).wf = true) (w1 : (Lit.int .i64 a1).wf = true) :
  Calls Try.prog 8 #[.int .i64 a0, .int .i64 a1] w fun e w' => e = .returned (.bool true) ∧ Below w.heap.size w w' := by
  have _w := w0
  have _w := w1
  go_enter Try.func8, Try.ntmps8
  go_wp2_with (first
    | (go_at_call 24; refine (specTropProduct_c _ _ _).mono ?_; rintro e w' ⟨rfl, rfl⟩)
    | (go_at_call 25; refine (implTropProduct_c _ _ _).mono ?_; rintro e w' ⟨rfl, hb⟩))
  go_ret
  exact ⟨rfl, by assumption⟩
theorem specTropQuotient_c (a b : Int) (w : World) : Calls Try.prog 26 #[.int .i64 a, .int .i64 b] w fun e w' => e = .returned (.tuple #[.int .i64 (pTropQuotient a b).1, .bool (pTropQuotient a b).2]) ∧ w = w' := by
  cases h : isNum a <;> cases h2 : isNum b <;> cases h3 : (b == 1000000000)
  case true.true.false =>
    have ba := isNum_bd h
    have bb := isNum_bd h2
    have H := Lib.hid h
    have H2 := Lib.hid h2
    have H3 := Lib.hid h3
    clear h h2
    go_enter Try.func26, Try.ntmps26
    go_wp2_with (first
      | (go_at_call 42; refine (nuGood_c _ _).mono ?_; (first | rw [H.out] | rw [H2.out]); rintro e w' ⟨rfl, rfl⟩)
      | (go_at_call 53; refine (nuMul_c _ _ _ (by omega) (by omega) (by omega) (by omega)).mono ?_; rintro e w' ⟨rfl, rfl⟩))
    go_ret2
    exact ⟨retIB (by rw [pTropQuotient, H.out, H2.out, H3.out]; rfl) (by rw [pTropQuotient, H.out, H2.out, H3.out]; rfl), rfl⟩
  all_goals
    have H := Lib.hid h
    have H2 := Lib.hid h2
    have H3 := Lib.hid h3
    clear h h2
    go_enter Try.func26, Try.ntmps26
    go_wp2_with (first
      | (go_at_call 42; refine (nuGood_c _ _).mono ?_; (first | rw [H.out] | rw [H2.out]); rintro e w' ⟨rfl, rfl⟩))
    go_ret2
    exact ⟨retIB (by rw [pTropQuotient, H.out, H2.out, H3.out]; rfl) (by rw [pTropQuotient, H.out, H2.out, H3.out]; rfl), rfl⟩
theorem implTropQuotient_c (a b : Int) (w : World) : Calls Try.prog 27 #[.int .i64 a, .int .i64 b] w fun e w' => e = .returned (.tuple #[.int .i64 (pTropQuotient a b).1, .bool (pTropQuotient a b).2]) ∧ Below w.heap.size w w' := by
  have R := Rd.lit w [a, b] 3 (two_le _ _)
  cases h : [a, b].all isNum <;> cases h3 : (b == 1000000000)
  case true.false =>
    have H := Lib.hid h
    have H1 := Lib.hid (all_two h)
    have H3 := Lib.hid h3
    have hb : -1000000 ≤ a ∧ a ≤ 1000000000 ∧ -1000000 ≤ b ∧ b ≤ 1000000000 := by
      have h1 := H1.out
      simp only [Bool.and_eq_true] at h1
      have := isNum_bd h1.1
      have := isNum_bd h1.2
      omega
    clear h
    go_enter Try.func27, Try.ntmps27
    go_wp2_with (first
      | (go_at_call 47; refine (areNumbers_c _ _ _ _ _ _ R).mono ?_; rw [H.out]; rintro e w' ⟨rfl, rfl⟩)
      | (go_at_call 51; refine (product_c _ _ _ (by omega) (by omega) (by omega) (by omega)).mono ?_; rintro e w' ⟨rfl, rfl⟩)
      | (go_at_call 52; refine (told_c _ _).mono ?_; rintro e w' ⟨rfl, rfl⟩))
    go_ret2
    exact ⟨retIB (by rw [pTropQuotient, H1.out, H3.out]; rfl) (by rw [pTropQuotient, H1.out, H3.out]; rfl), bel_new _ _⟩
  all_goals
    have H := Lib.hid h
    have H1 := Lib.hid (all_two h)
    have H3 := Lib.hid h3
    clear h
    go_enter Try.func27, Try.ntmps27
    go_wp2_with (go_at_call 47; refine (areNumbers_c _ _ _ _ _ _ R).mono ?_; rw [H.out]; rintro e w' ⟨rfl, rfl⟩)
    go_ret2
    exact ⟨retIB (by rw [pTropQuotient, H1.out, H3.out]; rfl) (by rw [pTropQuotient, H1.out, H3.out]; rfl), bel_new _ _⟩
theorem walk_FnExactTropQuotient (a0 : Int) (a1 : Int) (w : World) (w0 : (Lit.int .i64 a0).wf = true) (w1 : (Lit.int .i64 a1).wf = true) :
  Calls Try.prog 9 #[.int .i64 a0, .int .i64 a1] w fun e w' => e = .returned (.bool true) ∧ Below w.heap.size w w' := by
  have _w := w0
  have _w := w1
  go_enter Try.func9, Try.ntmps9
  go_wp2_with (first
    | (go_at_call 26; refine (specTropQuotient_c _ _ _).mono ?_; rintro e w' ⟨rfl, rfl⟩)
    | (go_at_call 27; refine (implTropQuotient_c _ _ _).mono ?_; rintro e w' ⟨rfl, hb⟩))
  go_ret
  exact ⟨rfl, by assumption⟩
theorem specTropPower_c (a k : Int) (w : World) : Calls Try.prog 22 #[.int .i64 a, .int .i64 k] w fun e w' => e = .returned (.tuple #[.int .i64 (pTropPower a k).1, .bool (pTropPower a k).2]) ∧ w = w' := by
  cases h : isNum a <;> cases h2 : (decide (0 ≤ k) && decide (k ≤ 20))
  case true.true =>
    have ba := isNum_bd h
    have bk : 0 ≤ k ∧ k ≤ 20 := by simpa using h2
    have hp : pTropPower a k = told (pPow a k.toNat) := by rw [pTropPower, h, h2]; rfl
    have H := Lib.hid h
    have H2 := Lib.hid h2
    cases h3 : (k == 0) <;> cases h4 : (a == 1000000000)
    case false.false =>
      have hf : -1000000 ≤ a ∧ a ≤ 1000000 := by
        have := (isNum_iff a).1 h
        have := beq_eq_false_iff_ne.1 h4
        omega
      have hq := pPow_fin hf k.toNat (by omega)
      rw [Int.toNat_of_nonneg bk.1] at hq
      have hm : -20000000 ≤ k * a ∧ k * a ≤ 20000000 := by
        constructor
        · calc (-20000000 : Int) ≤ k * (-1000000) := by omega
            _ ≤ k * a := Int.mul_le_mul_of_nonneg_left hf.1 bk.1
        · calc k * a ≤ k * 1000000 := Int.mul_le_mul_of_nonneg_left hf.2 bk.1
            _ ≤ 20000000 := by omega
      rw [hq] at hp
      have HP := Lib.hid hp
      clear h h2 hp hq
      go_enter Try.func22, Try.ntmps22
      go_wp2_with (first
        | (go_at_call 42; refine (nuGood_c _ _).mono ?_; rw [H.out]; rintro e w' ⟨rfl, rfl⟩)
        | (go_at_call 48; refine (l1In_c _ _ _ _).mono ?_; rw [H2.out]; rintro e w' ⟨rfl, rfl⟩)
        | (go_at_call 49; refine (nuIf_c _ _).mono ?_; rintro e w' ⟨rfl, rfl⟩))
      go_ret2
      exact ⟨retIB (by rw [HP.out]) (by rw [HP.out]), rfl⟩
    case false.true =>
      have hk : pPow a k.toNat = 1000000000 := by
        have := beq_eq_false_iff_ne.1 h3
        rw [beq_iff_eq.1 h4, show k.toNat = (k.toNat - 1) + 1 from by omega, pPow_inf]
      rw [hk] at hp
      have HP := Lib.hid hp
      clear h h2 hp hk
      go_enter Try.func22, Try.ntmps22
      go_wp2_with (first
        | (go_at_call 42; refine (nuGood_c _ _).mono ?_; rw [H.out]; rintro e w' ⟨rfl, rfl⟩)
        | (go_at_call 48; refine (l1In_c _ _ _ _).mono ?_; rw [H2.out]; rintro e w' ⟨rfl, rfl⟩))
      go_ret2
      exact ⟨retIB (by rw [HP.out]; rfl) (by rw [HP.out]; rfl), rfl⟩
    all_goals
      have hk : pPow a k.toNat = 0 := by rw [beq_iff_eq.1 h3]; rfl
      rw [hk] at hp
      have HP := Lib.hid hp
      clear h h2 hp hk
      go_enter Try.func22, Try.ntmps22
      go_wp2_with (first
        | (go_at_call 42; refine (nuGood_c _ _).mono ?_; rw [H.out]; rintro e w' ⟨rfl, rfl⟩)
        | (go_at_call 48; refine (l1In_c _ _ _ _).mono ?_; rw [H2.out]; rintro e w' ⟨rfl, rfl⟩))
      go_ret2
      exact ⟨retIB (by rw [HP.out]; rfl) (by rw [HP.out]; rfl), rfl⟩
  all_goals
    have H := Lib.hid h
    have H2 := Lib.hid h2
    clear h h2
    go_enter Try.func22, Try.ntmps22
    go_wp2_with (first
      | (go_at_call 42; refine (nuGood_c _ _).mono ?_; rw [H.out]; rintro e w' ⟨rfl, rfl⟩)
      | (go_at_call 48; refine (l1In_c _ _ _ _).mono ?_; rw [H2.out]; rintro e w' ⟨rfl, rfl⟩))
    go_ret2
    exact ⟨retIB (by rw [pTropPower, H.out, H2.out]; rfl) (by rw [pTropPower, H.out, H2.out]; rfl), rfl⟩
theorem implTropPower_c (a k : Int) (w : World) : Calls Try.prog 23 #[.int .i64 a, .int .i64 k] w fun e w' => e = .returned (.tuple #[.int .i64 (pTropPower a k).1, .bool (pTropPower a k).2]) ∧ w = w' := by
  cases h : isNum a <;> cases h2 : (decide (0 ≤ k) && decide (k ≤ 20))
  case true.true =>
    have ba := isNum_bd h
    have bk : 0 ≤ k ∧ k ≤ 20 := by simpa using h2
    have hp : pTropPower a k = told (pPow a k.toNat) := by rw [pTropPower, h, h2]; rfl
    have HP := Lib.hid hp
    have HB := Lib.hid (pPow_bd h)
    have H := Lib.hid h
    have H2 := Lib.hid h2
    clear h h2 hp
    obtain ⟨m, rfl⟩ := Int.eq_ofNat_of_zero_le bk.1
    go_enter Try.func23, Try.ntmps23
    go_wp2_with (first
      | (go_at_call 43; refine (isNumber_c _ _).mono ?_; rw [H.out]; rintro e w' ⟨rfl, rfl⟩)
      | (go_at_call 50; refine (within_c _ _ _ _).mono ?_; rw [H2.out]; rintro e w' ⟨rfl, rfl⟩))
    go_loop [6, 16] (fun o i => ∃ j : Nat, j ≤ m ∧ i = .int .i64 j ∧ o = .int .i64 (pPow a j)) (fun _ i => m - (intOf i).toNat)
    case atStart => exact ⟨0, Nat.zero_le _, rfl, rfl⟩
    case round =>
      obtain ⟨j, hj, rfl, rfl⟩ := hrel
      have hb := HB.out j (by omega)
      by_cases hlt : j < m
      · go_wp2_with (go_at_call 51; refine (product_c _ _ _ (by omega) (by omega) (by omega) (by omega)).mono ?_; rintro e w' ⟨rfl, rfl⟩)
        go_round
        case rel => exact ⟨j + 1, by omega, by go_num, rfl⟩
        case measure => simp [intOf]; omega
      · obtain rfl : j = m := by omega
        go_wp2_with (go_at_call 52; refine (told_c _ _).mono ?_; rintro e w' ⟨rfl, rfl⟩)
        go_ret2
        exact ⟨retIB (by rw [HP.out, Int.toNat_natCast]) (by rw [HP.out, Int.toNat_natCast]), rfl⟩
  all_goals
    have H := Lib.hid h
    have H2 := Lib.hid h2
    clear h h2
    go_enter Try.func23, Try.ntmps23
    go_wp2_with (first
      | (go_at_call 43; refine (isNumber_c _ _).mono ?_; rw [H.out]; rintro e w' ⟨rfl, rfl⟩)
      | (go_at_call 50; refine (within_c _ _ _ _).mono ?_; rw [H2.out]; rintro e w' ⟨rfl, rfl⟩))
    go_ret2
    exact ⟨retIB (by rw [pTropPower, H.out, H2.out]; rfl) (by rw [pTropPower, H.out, H2.out]; rfl), rfl⟩
theorem walk_FnExactTropPower (a0 : Int) (a1 : Int) (w : World) (w0 : (Lit.int .i64 a0).wf = true) (w1 : (Lit.int .i64 a1).wf = true) :
  Calls Try.prog 7 #[.int .i64 a0, .int .i64 a1] w fun e w' => e = .returned (.bool true) ∧ Below w.heap.size w w' := by
  have _w := w0
  have _w := w1
  go_enter Try.func7, Try.ntmps7
  go_wp2_with (first
    | (go_at_call 22; refine (specTropPower_c _ _ _).mono ?_; rintro e w' ⟨rfl, rfl⟩)
    | (go_at_call 23; refine (implTropPower_c _ _ _).mono ?_; rintro e w' ⟨rfl, rfl⟩))
  go_ret
  exact ⟨rfl, Below.refl _ _⟩
end Go.Proofs.Ytmpeniplngfndaa
