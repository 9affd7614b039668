/- The operations of fractions: both packages' functions against plain ones. -/
import Derived.Test.YtfmlclciijlpkaaFrac
namespace Go.Proofs.Ytfmlclciijlpkaa
open Go.RowKit
theorem mkFr_if {n d : Int} (h : d ≠ 0) : mkFr n d = ((okN (lowN n d) (lowD n d), okD (lowN n d) (lowD n d)), isFr (lowN n d) (lowD n d)) := by
  rw [mkFr, if_neg h, okN, okD]
  cases isFr (lowN n d) (lowD n d) <;> rfl
theorem twoFr_bd {a b c d : Int} (h : twoFr a b c d = true) : (-1000000000 ≤ a ∧ a ≤ 1000000000 ∧ 1 ≤ b ∧ b ≤ 1000000000) ∧ -1000000000 ≤ c ∧ c ≤ 1000000000 ∧ 1 ≤ d ∧ d ≤ 1000000000 := by
  simp only [twoFr, Bool.and_eq_true] at h
  exact ⟨isFr_bd h.1, isFr_bd h.2⟩
/-- The products that the operations form. -/
theorem prods {a b c d : Int} (h : (-1000000000 ≤ a ∧ a ≤ 1000000000 ∧ 1 ≤ b ∧ b ≤ 1000000000) ∧ -1000000000 ≤ c ∧ c ≤ 1000000000 ∧ 1 ≤ d ∧ d ≤ 1000000000) :
    (-1000000000000000000 ≤ a * d ∧ a * d ≤ 1000000000000000000) ∧ (-1000000000000000000 ≤ c * b ∧ c * b ≤ 1000000000000000000) ∧ (1 ≤ b * d ∧ b * d ≤ 1000000000000000000) ∧
    (-1000000000000000000 ≤ a * c ∧ a * c ≤ 1000000000000000000) ∧ (-1000000000000000000 ≤ b * c ∧ b * c ≤ 1000000000000000000) := by
  have h1 : 0 < b * d := Int.mul_pos (by omega) (by omega)
  exact ⟨bd18 (by omega) (by omega) (by omega) (by omega), bd18 (by omega) (by omega) (by omega) (by omega), ⟨by omega, (bd18 (x := b) (y := d) (by omega) (by omega) (by omega) (by omega)).2⟩,
    bd18 (by omega) (by omega) (by omega) (by omega), bd18 (by omega) (by omega) (by omega) (by omega)⟩
theorem frAdd_c (a b c d : Int) (w : World) (h : (-1000000000 ≤ a ∧ a ≤ 1000000000 ∧ 1 ≤ b ∧ b ≤ 1000000000) ∧ -1000000000 ≤ c ∧ c ≤ 1000000000 ∧ 1 ≤ d ∧ d ≤ 1000000000) :
    Calls Try.prog 33 #[.agg #[.int .i64 a, .int .i64 b], .agg #[.int .i64 c, .int .i64 d]] w fun e w' =>
      e = .returned (.tuple #[.agg #[.int .i64 (mkFr (a * d + c * b) (b * d)).1.1, .int .i64 (mkFr (a * d + c * b) (b * d)).1.2], .bool (mkFr (a * d + c * b) (b * d)).2]) ∧ Below w.heap.size w w' := by
  obtain ⟨⟨p1, p2⟩, ⟨p3, p4⟩, ⟨p5, p6⟩, ⟨p7, p8⟩, p9, p10⟩ := prods h
  have X := bx3 w [.int .i64 a, .int .i64 b] [.int .i64 c, .int .i64 d] [.int .i64 0, .int .i64 0] 33 33 33
  go_enter Try.func33, Try.ntmps33
  go_wp2_with fail
  refine (frMake_c _ _ _ (by omega) (by omega) (by omega) (by omega)).mono ?_; rintro e w1 ⟨rfl, hb⟩
  have bel := bel_step (bel_alloc (bel_alloc (bel_new _ _) _) _) hb
  have R := X.2.2.go hb
  clear X
  have hr0 := R.at0
  have hr1 := R.at1
  have hf0 := R.fz 0
  have hf1 := R.fz 1
  go_wp2_with fail
  refine bodyPost_ret (v := .tuple #[.agg #[.int .i64 (mkFr (a * d + c * b) (b * d)).1.1, .int .i64 (mkFr (a * d + c * b) (b * d)).1.2], .bool (mkFr (a * d + c * b) (b * d)).2]) (by simp [results, Try.results33, go_sem, *]) rfl ⟨?_, ?_⟩
  · rfl
  · (repeat (first | exact bel | refine Below.drew ?_ | refine bel_set ?_ (by first | exact Nat.le_refl _ | (dsimp only; omega) | omega) _ | refine bel_alloc ?_ _))
theorem add_c (a b c d : Int) (w : World) (h : (-1000000000 ≤ a ∧ a ≤ 1000000000 ∧ 1 ≤ b ∧ b ≤ 1000000000) ∧ -1000000000 ≤ c ∧ c ≤ 1000000000 ∧ 1 ≤ d ∧ d ≤ 1000000000) (hd : b * d ≠ 0) :
    Calls Try.prog 53 #[.agg #[.int .i64 a, .int .i64 b], .agg #[.int .i64 c, .int .i64 d]] w fun e w' =>
      e = .returned (.agg #[.int .i64 (lowN (a * d + c * b) (b * d)), .int .i64 (lowD (a * d + c * b) (b * d))]) ∧ Below w.heap.size w w' := by
  obtain ⟨⟨p1, p2⟩, ⟨p3, p4⟩, ⟨p5, p6⟩, ⟨p7, p8⟩, p9, p10⟩ := prods h
  have X := bx3 w [.int .i64 a, .int .i64 b] [.int .i64 c, .int .i64 d] [.int .i64 0, .int .i64 0] 33 33 33
  have HD := Lib.hid hd
  clear hd
  go_enter Try.func53, Try.ntmps53
  go_wp2_with fail
  refine (lowest_c _ _ _ HD.out (by omega) (by omega) (by omega) (by omega)).mono ?_; rintro e w1 ⟨rfl, hb⟩
  have bel := bel_step (bel_alloc (bel_alloc (bel_new _ _) _) _) hb
  have R := X.2.2.go hb
  clear X
  have hr0 := R.at0
  have hr1 := R.at1
  have hf0 := R.fz 0
  have hf1 := R.fz 1
  go_wp2_with fail
  refine bodyPost_ret (v := .agg #[.int .i64 (lowN (a * d + c * b) (b * d)), .int .i64 (lowD (a * d + c * b) (b * d))]) (by simp [results, Try.results53, go_sem, *]) rfl ⟨?_, ?_⟩
  · rfl
  · (repeat (first | exact bel | refine Below.drew ?_ | refine bel_set ?_ (by first | exact Nat.le_refl _ | (dsimp only; omega) | omega) _ | refine bel_alloc ?_ _))
theorem implAddFracs_c (a b c d : Int) (w : World) :
    Calls Try.prog 37 #[.agg #[.int .i64 a, .int .i64 b], .agg #[.int .i64 c, .int .i64 d]] w fun e w' =>
      e = .returned (.tuple #[.agg #[.int .i64 (pAdd a b c d).1.1, .int .i64 (pAdd a b c d).1.2], .bool (pAdd a b c d).2]) ∧ Below w.heap.size w w' := by
  have X := bx3 w [.int .i64 a, .int .i64 b] [.int .i64 c, .int .i64 d] [.int .i64 0, .int .i64 0] 33 33 33
  have S := Bx.new (((w.alloc (.cells #[.int .i64 a, .int .i64 b] 33)).alloc (.cells #[.int .i64 c, .int .i64 d] 33)).alloc (.cells #[.int .i64 0, .int .i64 0] 33)) [.int .i64 a, .int .i64 b, .int .i64 c, .int .i64 d] 33
  cases h : twoFr a b c d
  · have HP : Hid (pAdd a b c d = ((0, 0), false)) := Lib.hid (by rw [pAdd, h]; rfl)
    have H := Lib.hid h
    clear h
    go_enter Try.func37, Try.ntmps37
    go_wp2_with fail
    refine (areFracs_c _ _ _ _ _ _ (by simpa using S)).mono ?_; rw [H.out]; rintro e w1 ⟨rfl, hb⟩
    have bel := bel_step (bel_alloc (bel_alloc (bel_alloc (bel_new _ _) _) _) _) hb
    have R := (X.2.2.alloc _).go hb
    clear X S
    have hr0 := R.at0
    have hr1 := R.at1
    have hf0 := R.fz 0
    have hf1 := R.fz 1
    go_wp2_with fail
    refine bodyPost_ret (v := .tuple #[.agg #[.int .i64 0, .int .i64 0], .bool false]) (by simp [results, Try.results37, go_sem, *]) rfl ⟨?_, ?_⟩
    · rw [HP.out]
    · (repeat (first | exact bel | refine Below.drew ?_ | refine bel_set ?_ (by first | exact Nat.le_refl _ | (dsimp only; omega) | omega) _ | refine bel_alloc ?_ _))
  · have hbd := twoFr_bd h
    have hne : b * d ≠ 0 := by have := (prods hbd).2.2.1; omega
    have HP0 := mkFr_if (n := a * d + c * b) hne
    have e : pAdd a b c d = mkFr (a * d + c * b) (b * d) := by rw [pAdd, h]; rfl
    rw [← e] at HP0
    have HP := Lib.hid HP0
    clear e HP0
    have H := Lib.hid h
    clear h
    go_enter Try.func37, Try.ntmps37
    go_wp2_with fail
    refine (areFracs_c _ _ _ _ _ _ (by simpa using S)).mono ?_; rw [H.out]; rintro e w1 ⟨rfl, hb⟩
    have bel := bel_step (bel_alloc (bel_alloc (bel_alloc (bel_new _ _) _) _) _) hb
    have P := (X.1.alloc _).go hb
    have Q := (X.2.1.alloc _).go hb
    have R := (X.2.2.alloc _).go hb
    clear X S
    have hp0 := P.at0
    have hp1 := P.at1
    have hq0 := Q.at0
    have hq1 := Q.at1
    go_wp2_with fail
    refine (add_c _ _ _ _ _ hbd hne).mono ?_; rintro e w2 ⟨rfl, hb2⟩
    have bel := bel_step bel hb2
    have R := R.go hb2
    go_wp2_with fail
    refine (toldFrac_c _ _ _).mono ?_; rintro e w3 ⟨rfl, hb3⟩
    have bel := bel_step bel hb3
    have R := R.go hb3
    have hr0 := R.at0
    have hr1 := R.at1
    have hf0 := R.fz 0
    have hf1 := R.fz 1
    go_wp2_with fail
    refine bodyPost_ret (v := .tuple #[.agg #[.int .i64 (okN (lowN (a * d + c * b) (b * d)) (lowD (a * d + c * b) (b * d))), .int .i64 (okD (lowN (a * d + c * b) (b * d)) (lowD (a * d + c * b) (b * d)))], .bool (isFr (lowN (a * d + c * b) (b * d)) (lowD (a * d + c * b) (b * d)))]) (by simp [results, Try.results37, go_sem, *]) rfl ⟨?_, ?_⟩
    · rw [HP.out]
    · (repeat (first | exact bel | refine Below.drew ?_ | refine bel_set ?_ (by first | exact Nat.le_refl _ | (dsimp only; omega) | omega) _ | refine bel_alloc ?_ _))
theorem frMul_c (a b c d : Int) (w : World) (h : (-1000000000 ≤ a ∧ a ≤ 1000000000 ∧ 1 ≤ b ∧ b ≤ 1000000000) ∧ -1000000000 ≤ c ∧ c ≤ 1000000000 ∧ 1 ≤ d ∧ d ≤ 1000000000) :
    Calls Try.prog 31 #[.agg #[.int .i64 a, .int .i64 b], .agg #[.int .i64 c, .int .i64 d]] w fun e w' =>
      e = .returned (.tuple #[.agg #[.int .i64 (mkFr (a * c) (b * d)).1.1, .int .i64 (mkFr (a * c) (b * d)).1.2], .bool (mkFr (a * c) (b * d)).2]) ∧ Below w.heap.size w w' := by
  obtain ⟨⟨p1, p2⟩, ⟨p3, p4⟩, ⟨p5, p6⟩, ⟨p7, p8⟩, p9, p10⟩ := prods h
  have X := bx3 w [.int .i64 a, .int .i64 b] [.int .i64 c, .int .i64 d] [.int .i64 0, .int .i64 0] 33 33 33
  go_enter Try.func31, Try.ntmps31
  go_wp2_with fail
  refine (frMake_c _ _ _ (by omega) (by omega) (by omega) (by omega)).mono ?_; rintro e w1 ⟨rfl, hb⟩
  have bel := bel_step (bel_alloc (bel_alloc (bel_new _ _) _) _) hb
  have R := X.2.2.go hb
  clear X
  have hr0 := R.at0
  have hr1 := R.at1
  have hf0 := R.fz 0
  have hf1 := R.fz 1
  go_wp2_with fail
  refine bodyPost_ret (v := .tuple #[.agg #[.int .i64 (mkFr (a * c) (b * d)).1.1, .int .i64 (mkFr (a * c) (b * d)).1.2], .bool (mkFr (a * c) (b * d)).2]) (by simp [results, Try.results31, go_sem, *]) rfl ⟨?_, ?_⟩
  · rfl
  · (repeat (first | exact bel | refine Below.drew ?_ | refine bel_set ?_ (by first | exact Nat.le_refl _ | (dsimp only; omega) | omega) _ | refine bel_alloc ?_ _))
theorem mul_c (a b c d : Int) (w : World) (h : (-1000000000 ≤ a ∧ a ≤ 1000000000 ∧ 1 ≤ b ∧ b ≤ 1000000000) ∧ -1000000000 ≤ c ∧ c ≤ 1000000000 ∧ 1 ≤ d ∧ d ≤ 1000000000) (hd : b * d ≠ 0) :
    Calls Try.prog 52 #[.agg #[.int .i64 a, .int .i64 b], .agg #[.int .i64 c, .int .i64 d]] w fun e w' =>
      e = .returned (.agg #[.int .i64 (lowN (a * c) (b * d)), .int .i64 (lowD (a * c) (b * d))]) ∧ Below w.heap.size w w' := by
  obtain ⟨⟨p1, p2⟩, ⟨p3, p4⟩, ⟨p5, p6⟩, ⟨p7, p8⟩, p9, p10⟩ := prods h
  have X := bx3 w [.int .i64 a, .int .i64 b] [.int .i64 c, .int .i64 d] [.int .i64 0, .int .i64 0] 33 33 33
  have HD := Lib.hid hd
  clear hd
  go_enter Try.func52, Try.ntmps52
  go_wp2_with fail
  refine (lowest_c _ _ _ HD.out (by omega) (by omega) (by omega) (by omega)).mono ?_; rintro e w1 ⟨rfl, hb⟩
  have bel := bel_step (bel_alloc (bel_alloc (bel_new _ _) _) _) hb
  have R := X.2.2.go hb
  clear X
  have hr0 := R.at0
  have hr1 := R.at1
  have hf0 := R.fz 0
  have hf1 := R.fz 1
  go_wp2_with fail
  refine bodyPost_ret (v := .agg #[.int .i64 (lowN (a * c) (b * d)), .int .i64 (lowD (a * c) (b * d))]) (by simp [results, Try.results52, go_sem, *]) rfl ⟨?_, ?_⟩
  · rfl
  · (repeat (first | exact bel | refine Below.drew ?_ | refine bel_set ?_ (by first | exact Nat.le_refl _ | (dsimp only; omega) | omega) _ | refine bel_alloc ?_ _))
theorem implMultiplyFracs_c (a b c d : Int) (w : World) :
    Calls Try.prog 36 #[.agg #[.int .i64 a, .int .i64 b], .agg #[.int .i64 c, .int .i64 d]] w fun e w' =>
      e = .returned (.tuple #[.agg #[.int .i64 (pMul a b c d).1.1, .int .i64 (pMul a b c d).1.2], .bool (pMul a b c d).2]) ∧ Below w.heap.size w w' := by
  have X := bx3 w [.int .i64 a, .int .i64 b] [.int .i64 c, .int .i64 d] [.int .i64 0, .int .i64 0] 33 33 33
  have S := Bx.new (((w.alloc (.cells #[.int .i64 a, .int .i64 b] 33)).alloc (.cells #[.int .i64 c, .int .i64 d] 33)).alloc (.cells #[.int .i64 0, .int .i64 0] 33)) [.int .i64 a, .int .i64 b, .int .i64 c, .int .i64 d] 33
  cases h : twoFr a b c d
  · have HP : Hid (pMul a b c d = ((0, 0), false)) := Lib.hid (by rw [pMul, h]; rfl)
    have H := Lib.hid h
    clear h
    go_enter Try.func36, Try.ntmps36
    go_wp2_with fail
    refine (areFracs_c _ _ _ _ _ _ (by simpa using S)).mono ?_; rw [H.out]; rintro e w1 ⟨rfl, hb⟩
    have bel := bel_step (bel_alloc (bel_alloc (bel_alloc (bel_new _ _) _) _) _) hb
    have R := (X.2.2.alloc _).go hb
    clear X S
    have hr0 := R.at0
    have hr1 := R.at1
    have hf0 := R.fz 0
    have hf1 := R.fz 1
    go_wp2_with fail
    refine bodyPost_ret (v := .tuple #[.agg #[.int .i64 0, .int .i64 0], .bool false]) (by simp [results, Try.results36, go_sem, *]) rfl ⟨?_, ?_⟩
    · rw [HP.out]
    · (repeat (first | exact bel | refine Below.drew ?_ | refine bel_set ?_ (by first | exact Nat.le_refl _ | (dsimp only; omega) | omega) _ | refine bel_alloc ?_ _))
  · have hbd := twoFr_bd h
    have hne : b * d ≠ 0 := by have := (prods hbd).2.2.1; omega
    have HP0 := mkFr_if (n := a * c) hne
    have e : pMul a b c d = mkFr (a * c) (b * d) := by rw [pMul, h]; rfl
    rw [← e] at HP0
    have HP := Lib.hid HP0
    clear e HP0
    have H := Lib.hid h
    clear h
    go_enter Try.func36, Try.ntmps36
    go_wp2_with fail
    refine (areFracs_c _ _ _ _ _ _ (by simpa using S)).mono ?_; rw [H.out]; rintro e w1 ⟨rfl, hb⟩
    have bel := bel_step (bel_alloc (bel_alloc (bel_alloc (bel_new _ _) _) _) _) hb
    have P := (X.1.alloc _).go hb
    have Q := (X.2.1.alloc _).go hb
    have R := (X.2.2.alloc _).go hb
    clear X S
    have hp0 := P.at0
    have hp1 := P.at1
    have hq0 := Q.at0
    have hq1 := Q.at1
    go_wp2_with fail
    refine (mul_c _ _ _ _ _ hbd hne).mono ?_; rintro e w2 ⟨rfl, hb2⟩
    have bel := bel_step bel hb2
    have R := R.go hb2
    go_wp2_with fail
    refine (toldFrac_c _ _ _).mono ?_; rintro e w3 ⟨rfl, hb3⟩
    have bel := bel_step bel hb3
    have R := R.go hb3
    have hr0 := R.at0
    have hr1 := R.at1
    have hf0 := R.fz 0
    have hf1 := R.fz 1
    go_wp2_with fail
    refine bodyPost_ret (v := .tuple #[.agg #[.int .i64 (okN (lowN (a * c) (b * d)) (lowD (a * c) (b * d))), .int .i64 (okD (lowN (a * c) (b * d)) (lowD (a * c) (b * d)))], .bool (isFr (lowN (a * c) (b * d)) (lowD (a * c) (b * d)))]) (by simp [results, Try.results36, go_sem, *]) rfl ⟨?_, ?_⟩
    · rw [HP.out]
    · (repeat (first | exact bel | refine Below.drew ?_ | refine bel_set ?_ (by first | exact Nat.le_refl _ | (dsimp only; omega) | omega) _ | refine bel_alloc ?_ _))
end Go.Proofs.Ytfmlclciijlpkaa
