/- The operations of fractions: both packages' functions against plain ones. -/
import Derived.Test.YtbmnighaphbbgaaFrac
namespace Go.Proofs.Ytbmnighaphbbgaa
open Go.RowKit
theorem mkFr_if {n d : Int} (h : d ≠ 0) : mkFr n d = ((okN (lowN n d) (lowD n d), okD (lowN n d) (lowD n d)), isFr (lowN n d) (lowD n d)) := by
  rw [mkFr, if_neg h, okN, okD]
  cases isFr (lowN n d) (lowD n d) <;> rfl
theorem twoFr_bd {a b c d : Int} (h : twoFr a b c d = true) : (-1000000000 ≤ a ∧ a ≤ 1000000000 ∧ 1 ≤ b ∧ b ≤ 1000000000) ∧ -1000000000 ≤ c ∧ c ≤ 1000000000 ∧ 1 ≤ d ∧ d ≤ 1000000000 := by
  simp only [twoFr, Bool.and_eq_true] at h
  exact ⟨isFr_bd h.1, isFr_bd h.2⟩
/-- The products that the operations form. -/
theorem prods {a b c d : Int} (h : (-1000000000 ≤ a ∧ a ≤ 1000000000 ∧ 1 ≤ b ∧ b ≤ 1000000000) ∧ -1000000000 ≤ c ∧ c ≤ 1000000000 ∧ 1 ≤ d ∧ d ≤ 1000000000) :
    (-1000000000000000000 ≤ a * d ∧ a * d ≤ 1000000000000000000) ∧ (-1000000000000000000 ≤ c * b ∧ c * b ≤ 1000000000000000000) ∧ (1 ≤ b * d ∧ b * d ≤ 1000000000000000000) ∧
    (-1000000000000000000 ≤ a * c ∧ a * c ≤ 1000000000000000000) ∧ (-1000000000000000000 ≤ b * c ∧ b * c ≤ 1000000000000000000) := by
  have h1 : 0 < b * d := Int.mul_pos (by omega) (by omega)
  exact ⟨bd18 (by omega) (by omega) (by omega) (by omega), bd18 (by omega) (by omega) (by omega) (by omega), ⟨by omega, (bd18 (x := b) (y := d) (by omega) (by omega) (by omega) (by omega)).2⟩,
    bd18 (by omega) (by omega) (by omega) (by omega), bd18 (by omega) (by omega) (by omega) (by omega)⟩
theorem frAdd_c (a b c d : Int) (w : World) (h : (-1000000000 ≤ a ∧ a ≤ 1000000000 ∧ 1 ≤ b ∧ b ≤ 1000000000) ∧ -1000000000 ≤ c ∧ c ≤ 1000000000 ∧ 1 ≤ d ∧ d ≤ 1000000000) :
    Calls Try.prog 56 #[.agg #[.int .i64 a, .int .i64 b], .agg #[.int .i64 c, .int .i64 d]] w fun e w' =>
      e = .returned (.tuple #[.agg #[.int .i64 (mkFr (a * d + c * b) (b * d)).1.1, .int .i64 (mkFr (a * d + c * b) (b * d)).1.2], .bool (mkFr (a * d + c * b) (b * d)).2]) ∧ Below w.heap.size w w' := by
  obtain ⟨⟨p1, p2⟩, ⟨p3, p4⟩, ⟨p5, p6⟩, ⟨p7, p8⟩, p9, p10⟩ := prods h
  have X := bx3 w [.int .i64 a, .int .i64 b] [.int .i64 c, .int .i64 d] [.int .i64 0, .int .i64 0] 25 25 25
  go_enter Try.func56, Try.ntmps56
  go_wp2_with fail
  refine (frMake_c _ _ _ (by omega) (by omega) (by omega) (by omega)).mono ?_; rintro e w1 ⟨rfl, hb⟩
  have bel := bel_step (bel_alloc (bel_alloc (bel_new _ _) _) _) hb
  have R := X.2.2.go hb
  clear X
  have hr0 := R.at0
  have hr1 := R.at1
  have hf0 := R.fz 0
  have hf1 := R.fz 1
  go_wp2_with fail
  refine bodyPost_ret (v := .tuple #[.agg #[.int .i64 (mkFr (a * d + c * b) (b * d)).1.1, .int .i64 (mkFr (a * d + c * b) (b * d)).1.2], .bool (mkFr (a * d + c * b) (b * d)).2]) (by simp [results, Try.results56, go_sem, *]) rfl ⟨?_, ?_⟩
  · rfl
  · (repeat (first | exact bel | refine Below.drew ?_ | refine bel_set ?_ (by first | exact Nat.le_refl _ | (dsimp only; omega) | omega) _ | refine bel_alloc ?_ _))
theorem add_c (a b c d : Int) (w : World) (h : (-1000000000 ≤ a ∧ a ≤ 1000000000 ∧ 1 ≤ b ∧ b ≤ 1000000000) ∧ -1000000000 ≤ c ∧ c ≤ 1000000000 ∧ 1 ≤ d ∧ d ≤ 1000000000) (hd : b * d ≠ 0) :
    Calls Try.prog 57 #[.agg #[.int .i64 a, .int .i64 b], .agg #[.int .i64 c, .int .i64 d]] w fun e w' =>
      e = .returned (.agg #[.int .i64 (lowN (a * d + c * b) (b * d)), .int .i64 (lowD (a * d + c * b) (b * d))]) ∧ Below w.heap.size w w' := by
  obtain ⟨⟨p1, p2⟩, ⟨p3, p4⟩, ⟨p5, p6⟩, ⟨p7, p8⟩, p9, p10⟩ := prods h
  have X := bx3 w [.int .i64 a, .int .i64 b] [.int .i64 c, .int .i64 d] [.int .i64 0, .int .i64 0] 25 25 25
  have HD := Lib.hid hd
  clear hd
  go_enter Try.func57, Try.ntmps57
  go_wp2_with fail
  refine (lowest_c _ _ _ HD.out (by omega) (by omega) (by omega) (by omega)).mono ?_; rintro e w1 ⟨rfl, hb⟩
  have bel := bel_step (bel_alloc (bel_alloc (bel_new _ _) _) _) hb
  have R := X.2.2.go hb
  clear X
  have hr0 := R.at0
  have hr1 := R.at1
  have hf0 := R.fz 0
  have hf1 := R.fz 1
  go_wp2_with fail
  refine bodyPost_ret (v := .agg #[.int .i64 (lowN (a * d + c * b) (b * d)), .int .i64 (lowD (a * d + c * b) (b * d))]) (by simp [results, Try.results57, go_sem, *]) rfl ⟨?_, ?_⟩
  · rfl
  · (repeat (first | exact bel | refine Below.drew ?_ | refine bel_set ?_ (by first | exact Nat.le_refl _ | (dsimp only; omega) | omega) _ | refine bel_alloc ?_ _))
theorem specAddFracs_c (a b c d : Int) (w : World) :
    Calls Try.prog 26 #[.agg #[.int .i64 a, .int .i64 b], .agg #[.int .i64 c, .int .i64 d]] w fun e w' =>
      e = .returned (.tuple #[.agg #[.int .i64 (pAdd a b c d).1.1, .int .i64 (pAdd a b c d).1.2], .bool (pAdd a b c d).2]) ∧ Below w.heap.size w w' := by
  have X := bx3 w [.int .i64 a, .int .i64 b] [.int .i64 c, .int .i64 d] [.int .i64 0, .int .i64 0] 25 25 25
  cases h : twoFr a b c d
  · have HP : Hid (pAdd a b c d = ((0, 0), false)) := Lib.hid (by rw [pAdd, h]; rfl)
    have H := Lib.hid h
    clear h
    go_enter Try.func26, Try.ntmps26
    go_wp2_with fail
    refine (frTwo_c _ _ _ _ _).mono ?_; rw [H.out]; rintro e w1 ⟨rfl, hb⟩
    have bel := bel_step (bel_alloc (bel_alloc (bel_new _ _) _) _) hb
    have R := X.2.2.go hb
    clear X
    have hr0 := R.at0
    have hr1 := R.at1
    have hf0 := R.fz 0
    have hf1 := R.fz 1
    go_wp2_with fail
    refine bodyPost_ret (v := .tuple #[.agg #[.int .i64 0, .int .i64 0], .bool false]) (by simp [results, Try.results26, go_sem, *]) rfl ⟨?_, ?_⟩
    · rw [HP.out]
    · (repeat (first | exact bel | refine Below.drew ?_ | refine bel_set ?_ (by first | exact Nat.le_refl _ | (dsimp only; omega) | omega) _ | refine bel_alloc ?_ _))
  · have HP : Hid (pAdd a b c d = mkFr (a * d + c * b) (b * d)) := Lib.hid (by rw [pAdd, h]; rfl)
    have hbd := twoFr_bd h
    have H := Lib.hid h
    clear h
    go_enter Try.func26, Try.ntmps26
    go_wp2_with fail
    refine (frTwo_c _ _ _ _ _).mono ?_; rw [H.out]; rintro e w1 ⟨rfl, hb⟩
    have bel := bel_step (bel_alloc (bel_alloc (bel_new _ _) _) _) hb
    have P := X.1.go hb
    have Q := X.2.1.go hb
    have R := X.2.2.go hb
    clear X
    have hp0 := P.at0
    have hp1 := P.at1
    have hq0 := Q.at0
    have hq1 := Q.at1
    go_wp2_with fail
    refine (frAdd_c _ _ _ _ _ hbd).mono ?_; rintro e w2 ⟨rfl, hb2⟩
    have bel := bel_step bel hb2
    have R := R.go hb2
    have hr0 := R.at0
    have hr1 := R.at1
    have hf0 := R.fz 0
    have hf1 := R.fz 1
    go_wp2_with fail
    refine bodyPost_ret (v := .tuple #[.agg #[.int .i64 (mkFr (a * d + c * b) (b * d)).1.1, .int .i64 (mkFr (a * d + c * b) (b * d)).1.2], .bool (mkFr (a * d + c * b) (b * d)).2]) (by simp [results, Try.results26, go_sem, *]) rfl ⟨?_, ?_⟩
    · rw [HP.out]
    · (repeat (first | exact bel | refine Below.drew ?_ | refine bel_set ?_ (by first | exact Nat.le_refl _ | (dsimp only; omega) | omega) _ | refine bel_alloc ?_ _))
theorem implAddFracs_c (a b c d : Int) (w : World) :
    Calls Try.prog 27 #[.agg #[.int .i64 a, .int .i64 b], .agg #[.int .i64 c, .int .i64 d]] w fun e w' =>
      e = .returned (.tuple #[.agg #[.int .i64 (pAdd a b c d).1.1, .int .i64 (pAdd a b c d).1.2], .bool (pAdd a b c d).2]) ∧ Below w.heap.size w w' := by
  have X := bx3 w [.int .i64 a, .int .i64 b] [.int .i64 c, .int .i64 d] [.int .i64 0, .int .i64 0] 25 25 25
  have S := Bx.new (((w.alloc (.cells #[.int .i64 a, .int .i64 b] 25)).alloc (.cells #[.int .i64 c, .int .i64 d] 25)).alloc (.cells #[.int .i64 0, .int .i64 0] 25)) [.int .i64 a, .int .i64 b, .int .i64 c, .int .i64 d] 25
  cases h : twoFr a b c d
  · have HP : Hid (pAdd a b c d = ((0, 0), false)) := Lib.hid (by rw [pAdd, h]; rfl)
    have H := Lib.hid h
    clear h
    go_enter Try.func27, Try.ntmps27
    go_wp2_with fail
    refine (areFracs_c _ _ _ _ _ _ (by simpa using S)).mono ?_; rw [H.out]; rintro e w1 ⟨rfl, hb⟩
    have bel := bel_step (bel_alloc (bel_alloc (bel_alloc (bel_new _ _) _) _) _) hb
    have R := (X.2.2.alloc _).go hb
    clear X S
    have hr0 := R.at0
    have hr1 := R.at1
    have hf0 := R.fz 0
    have hf1 := R.fz 1
    go_wp2_with fail
    refine bodyPost_ret (v := .tuple #[.agg #[.int .i64 0, .int .i64 0], .bool false]) (by simp [results, Try.results27, go_sem, *]) rfl ⟨?_, ?_⟩
    · rw [HP.out]
    · (repeat (first | exact bel | refine Below.drew ?_ | refine bel_set ?_ (by first | exact Nat.le_refl _ | (dsimp only; omega) | omega) _ | refine bel_alloc ?_ _))
  · have hbd := twoFr_bd h
    have hne : b * d ≠ 0 := by have := (prods hbd).2.2.1; omega
    have HP0 := mkFr_if (n := a * d + c * b) hne
    have e : pAdd a b c d = mkFr (a * d + c * b) (b * d) := by rw [pAdd, h]; rfl
    rw [← e] at HP0
    have HP := Lib.hid HP0
    clear e HP0
    have H := Lib.hid h
    clear h
    go_enter Try.func27, Try.ntmps27
    go_wp2_with fail
    refine (areFracs_c _ _ _ _ _ _ (by simpa using S)).mono ?_; rw [H.out]; rintro e w1 ⟨rfl, hb⟩
    have bel := bel_step (bel_alloc (bel_alloc (bel_alloc (bel_new _ _) _) _) _) hb
    have P := (X.1.alloc _).go hb
    have Q := (X.2.1.alloc _).go hb
    have R := (X.2.2.alloc _).go hb
    clear X S
    have hp0 := P.at0
    have hp1 := P.at1
    have hq0 := Q.at0
    have hq1 := Q.at1
    go_wp2_with fail
    refine (add_c _ _ _ _ _ hbd hne).mono ?_; rintro e w2 ⟨rfl, hb2⟩
    have bel := bel_step bel hb2
    have R := R.go hb2
    go_wp2_with fail
    refine (toldFrac_c _ _ _).mono ?_; rintro e w3 ⟨rfl, hb3⟩
    have bel := bel_step bel hb3
    have R := R.go hb3
    have hr0 := R.at0
    have hr1 := R.at1
    have hf0 := R.fz 0
    have hf1 := R.fz 1
    go_wp2_with fail
    refine bodyPost_ret (v := .tuple #[.agg #[.int .i64 (okN (lowN (a * d + c * b) (b * d)) (lowD (a * d + c * b) (b * d))), .int .i64 (okD (lowN (a * d + c * b) (b * d)) (lowD (a * d + c * b) (b * d)))], .bool (isFr (lowN (a * d + c * b) (b * d)) (lowD (a * d + c * b) (b * d)))]) (by simp [results, Try.results27, go_sem, *]) rfl ⟨?_, ?_⟩
    · rw [HP.out]
    · (repeat (first | exact bel | refine Below.drew ?_ | refine bel_set ?_ (by first | exact Nat.le_refl _ | (dsimp only; omega) | omega) _ | refine bel_alloc ?_ _))
theorem frSub_c (a b c d : Int) (w : World) (h : (-1000000000 ≤ a ∧ a ≤ 1000000000 ∧ 1 ≤ b ∧ b ≤ 1000000000) ∧ -1000000000 ≤ c ∧ c ≤ 1000000000 ∧ 1 ≤ d ∧ d ≤ 1000000000) :
    Calls Try.prog 62 #[.agg #[.int .i64 a, .int .i64 b], .agg #[.int .i64 c, .int .i64 d]] w fun e w' =>
      e = .returned (.tuple #[.agg #[.int .i64 (mkFr (a * d - c * b) (b * d)).1.1, .int .i64 (mkFr (a * d - c * b) (b * d)).1.2], .bool (mkFr (a * d - c * b) (b * d)).2]) ∧ Below w.heap.size w w' := by
  obtain ⟨⟨p1, p2⟩, ⟨p3, p4⟩, ⟨p5, p6⟩, ⟨p7, p8⟩, p9, p10⟩ := prods h
  have X := bx3 w [.int .i64 a, .int .i64 b] [.int .i64 c, .int .i64 d] [.int .i64 0, .int .i64 0] 25 25 25
  go_enter Try.func62, Try.ntmps62
  go_wp2_with fail
  refine (frMake_c _ _ _ (by omega) (by omega) (by omega) (by omega)).mono ?_; rintro e w1 ⟨rfl, hb⟩
  have bel := bel_step (bel_alloc (bel_alloc (bel_new _ _) _) _) hb
  have R := X.2.2.go hb
  clear X
  have hr0 := R.at0
  have hr1 := R.at1
  have hf0 := R.fz 0
  have hf1 := R.fz 1
  go_wp2_with fail
  refine bodyPost_ret (v := .tuple #[.agg #[.int .i64 (mkFr (a * d - c * b) (b * d)).1.1, .int .i64 (mkFr (a * d - c * b) (b * d)).1.2], .bool (mkFr (a * d - c * b) (b * d)).2]) (by simp [results, Try.results62, go_sem, *]) rfl ⟨?_, ?_⟩
  · rfl
  · (repeat (first | exact bel | refine Below.drew ?_ | refine bel_set ?_ (by first | exact Nat.le_refl _ | (dsimp only; omega) | omega) _ | refine bel_alloc ?_ _))
theorem sub_c (a b c d : Int) (w : World) (h : (-1000000000 ≤ a ∧ a ≤ 1000000000 ∧ 1 ≤ b ∧ b ≤ 1000000000) ∧ -1000000000 ≤ c ∧ c ≤ 1000000000 ∧ 1 ≤ d ∧ d ≤ 1000000000) (hd : b * d ≠ 0) :
    Calls Try.prog 63 #[.agg #[.int .i64 a, .int .i64 b], .agg #[.int .i64 c, .int .i64 d]] w fun e w' =>
      e = .returned (.agg #[.int .i64 (lowN (a * d - c * b) (b * d)), .int .i64 (lowD (a * d - c * b) (b * d))]) ∧ Below w.heap.size w w' := by
  obtain ⟨⟨p1, p2⟩, ⟨p3, p4⟩, ⟨p5, p6⟩, ⟨p7, p8⟩, p9, p10⟩ := prods h
  have X := bx3 w [.int .i64 a, .int .i64 b] [.int .i64 c, .int .i64 d] [.int .i64 0, .int .i64 0] 25 25 25
  have HD := Lib.hid hd
  clear hd
  go_enter Try.func63, Try.ntmps63
  go_wp2_with fail
  refine (lowest_c _ _ _ HD.out (by omega) (by omega) (by omega) (by omega)).mono ?_; rintro e w1 ⟨rfl, hb⟩
  have bel := bel_step (bel_alloc (bel_alloc (bel_new _ _) _) _) hb
  have R := X.2.2.go hb
  clear X
  have hr0 := R.at0
  have hr1 := R.at1
  have hf0 := R.fz 0
  have hf1 := R.fz 1
  go_wp2_with fail
  refine bodyPost_ret (v := .agg #[.int .i64 (lowN (a * d - c * b) (b * d)), .int .i64 (lowD (a * d - c * b) (b * d))]) (by simp [results, Try.results63, go_sem, *]) rfl ⟨?_, ?_⟩
  · rfl
  · (repeat (first | exact bel | refine Below.drew ?_ | refine bel_set ?_ (by first | exact Nat.le_refl _ | (dsimp only; omega) | omega) _ | refine bel_alloc ?_ _))
theorem specSubtractFracs_c (a b c d : Int) (w : World) :
    Calls Try.prog 32 #[.agg #[.int .i64 a, .int .i64 b], .agg #[.int .i64 c, .int .i64 d]] w fun e w' =>
      e = .returned (.tuple #[.agg #[.int .i64 (pSub a b c d).1.1, .int .i64 (pSub a b c d).1.2], .bool (pSub a b c d).2]) ∧ Below w.heap.size w w' := by
  have X := bx3 w [.int .i64 a, .int .i64 b] [.int .i64 c, .int .i64 d] [.int .i64 0, .int .i64 0] 25 25 25
  cases h : twoFr a b c d
  · have HP : Hid (pSub a b c d = ((0, 0), false)) := Lib.hid (by rw [pSub, h]; rfl)
    have H := Lib.hid h
    clear h
    go_enter Try.func32, Try.ntmps32
    go_wp2_with fail
    refine (frTwo_c _ _ _ _ _).mono ?_; rw [H.out]; rintro e w1 ⟨rfl, hb⟩
    have bel := bel_step (bel_alloc (bel_alloc (bel_new _ _) _) _) hb
    have R := X.2.2.go hb
    clear X
    have hr0 := R.at0
    have hr1 := R.at1
    have hf0 := R.fz 0
    have hf1 := R.fz 1
    go_wp2_with fail
    refine bodyPost_ret (v := .tuple #[.agg #[.int .i64 0, .int .i64 0], .bool false]) (by simp [results, Try.results32, go_sem, *]) rfl ⟨?_, ?_⟩
    · rw [HP.out]
    · (repeat (first | exact bel | refine Below.drew ?_ | refine bel_set ?_ (by first | exact Nat.le_refl _ | (dsimp only; omega) | omega) _ | refine bel_alloc ?_ _))
  · have HP : Hid (pSub a b c d = mkFr (a * d - c * b) (b * d)) := Lib.hid (by rw [pSub, h]; rfl)
    have hbd := twoFr_bd h
    have H := Lib.hid h
    clear h
    go_enter Try.func32, Try.ntmps32
    go_wp2_with fail
    refine (frTwo_c _ _ _ _ _).mono ?_; rw [H.out]; rintro e w1 ⟨rfl, hb⟩
    have bel := bel_step (bel_alloc (bel_alloc (bel_new _ _) _) _) hb
    have P := X.1.go hb
    have Q := X.2.1.go hb
    have R := X.2.2.go hb
    clear X
    have hp0 := P.at0
    have hp1 := P.at1
    have hq0 := Q.at0
    have hq1 := Q.at1
    go_wp2_with fail
    refine (frSub_c _ _ _ _ _ hbd).mono ?_; rintro e w2 ⟨rfl, hb2⟩
    have bel := bel_step bel hb2
    have R := R.go hb2
    have hr0 := R.at0
    have hr1 := R.at1
    have hf0 := R.fz 0
    have hf1 := R.fz 1
    go_wp2_with fail
    refine bodyPost_ret (v := .tuple #[.agg #[.int .i64 (mkFr (a * d - c * b) (b * d)).1.1, .int .i64 (mkFr (a * d - c * b) (b * d)).1.2], .bool (mkFr (a * d - c * b) (b * d)).2]) (by simp [results, Try.results32, go_sem, *]) rfl ⟨?_, ?_⟩
    · rw [HP.out]
    · (repeat (first | exact bel | refine Below.drew ?_ | refine bel_set ?_ (by first | exact Nat.le_refl _ | (dsimp only; omega) | omega) _ | refine bel_alloc ?_ _))
theorem implSubtractFracs_c (a b c d : Int) (w : World) :
    Calls Try.prog 33 #[.agg #[.int .i64 a, .int .i64 b], .agg #[.int .i64 c, .int .i64 d]] w fun e w' =>
      e = .returned (.tuple #[.agg #[.int .i64 (pSub a b c d).1.1, .int .i64 (pSub a b c d).1.2], .bool (pSub a b c d).2]) ∧ Below w.heap.size w w' := by
  have X := bx3 w [.int .i64 a, .int .i64 b] [.int .i64 c, .int .i64 d] [.int .i64 0, .int .i64 0] 25 25 25
  have S := Bx.new (((w.alloc (.cells #[.int .i64 a, .int .i64 b] 25)).alloc (.cells #[.int .i64 c, .int .i64 d] 25)).alloc (.cells #[.int .i64 0, .int .i64 0] 25)) [.int .i64 a, .int .i64 b, .int .i64 c, .int .i64 d] 25
  cases h : twoFr a b c d
  · have HP : Hid (pSub a b c d = ((0, 0), false)) := Lib.hid (by rw [pSub, h]; rfl)
    have H := Lib.hid h
    clear h
    go_enter Try.func33, Try.ntmps33
    go_wp2_with fail
    refine (areFracs_c _ _ _ _ _ _ (by simpa using S)).mono ?_; rw [H.out]; rintro e w1 ⟨rfl, hb⟩
    have bel := bel_step (bel_alloc (bel_alloc (bel_alloc (bel_new _ _) _) _) _) hb
    have R := (X.2.2.alloc _).go hb
    clear X S
    have hr0 := R.at0
    have hr1 := R.at1
    have hf0 := R.fz 0
    have hf1 := R.fz 1
    go_wp2_with fail
    refine bodyPost_ret (v := .tuple #[.agg #[.int .i64 0, .int .i64 0], .bool false]) (by simp [results, Try.results33, go_sem, *]) rfl ⟨?_, ?_⟩
    · rw [HP.out]
    · (repeat (first | exact bel | refine Below.drew ?_ | refine bel_set ?_ (by first | exact Nat.le_refl _ | (dsimp only; omega) | omega) _ | refine bel_alloc ?_ _))
  · have hbd := twoFr_bd h
    have hne : b * d ≠ 0 := by have := (prods hbd).2.2.1; omega
    have HP0 := mkFr_if (n := a * d - c * b) hne
    have e : pSub a b c d = mkFr (a * d - c * b) (b * d) := by rw [pSub, h]; rfl
    rw [← e] at HP0
    have HP := Lib.hid HP0
    clear e HP0
    have H := Lib.hid h
    clear h
    go_enter Try.func33, Try.ntmps33
    go_wp2_with fail
    refine (areFracs_c _ _ _ _ _ _ (by simpa using S)).mono ?_; rw [H.out]; rintro e w1 ⟨rfl, hb⟩
    have bel := bel_step (bel_alloc (bel_alloc (bel_alloc (bel_new _ _) _) _) _) hb
    have P := (X.1.alloc _).go hb
    have Q := (X.2.1.alloc _).go hb
    have R := (X.2.2.alloc _).go hb
    clear X S
    have hp0 := P.at0
    have hp1 := P.at1
    have hq0 := Q.at0
    have hq1 := Q.at1
    go_wp2_with fail
    refine (sub_c _ _ _ _ _ hbd hne).mono ?_; rintro e w2 ⟨rfl, hb2⟩
    have bel := bel_step bel hb2
    have R := R.go hb2
    go_wp2_with fail
    refine (toldFrac_c _ _ _).mono ?_; rintro e w3 ⟨rfl, hb3⟩
    have bel := bel_step bel hb3
    have R := R.go hb3
    have hr0 := R.at0
    have hr1 := R.at1
    have hf0 := R.fz 0
    have hf1 := R.fz 1
    go_wp2_with fail
    refine bodyPost_ret (v := .tuple #[.agg #[.int .i64 (okN (lowN (a * d - c * b) (b * d)) (lowD (a * d - c * b) (b * d))), .int .i64 (okD (lowN (a * d - c * b) (b * d)) (lowD (a * d - c * b) (b * d)))], .bool (isFr (lowN (a * d - c * b) (b * d)) (lowD (a * d - c * b) (b * d)))]) (by simp [results, Try.results33, go_sem, *]) rfl ⟨?_, ?_⟩
    · rw [HP.out]
    · (repeat (first | exact bel | refine Below.drew ?_ | refine bel_set ?_ (by first | exact Nat.le_refl _ | (dsimp only; omega) | omega) _ | refine bel_alloc ?_ _))
theorem frMul_c (a b c d : Int) (w : World) (h : (-1000000000 ≤ a ∧ a ≤ 1000000000 ∧ 1 ≤ b ∧ b ≤ 1000000000) ∧ -1000000000 ≤ c ∧ c ≤ 1000000000 ∧ 1 ≤ d ∧ d ≤ 1000000000) :
    Calls Try.prog 60 #[.agg #[.int .i64 a, .int .i64 b], .agg #[.int .i64 c, .int .i64 d]] w fun e w' =>
      e = .returned (.tuple #[.agg #[.int .i64 (mkFr (a * c) (b * d)).1.1, .int .i64 (mkFr (a * c) (b * d)).1.2], .bool (mkFr (a * c) (b * d)).2]) ∧ Below w.heap.size w w' := by
  obtain ⟨⟨p1, p2⟩, ⟨p3, p4⟩, ⟨p5, p6⟩, ⟨p7, p8⟩, p9, p10⟩ := prods h
  have X := bx3 w [.int .i64 a, .int .i64 b] [.int .i64 c, .int .i64 d] [.int .i64 0, .int .i64 0] 25 25 25
  go_enter Try.func60, Try.ntmps60
  go_wp2_with fail
  refine (frMake_c _ _ _ (by omega) (by omega) (by omega) (by omega)).mono ?_; rintro e w1 ⟨rfl, hb⟩
  have bel := bel_step (bel_alloc (bel_alloc (bel_new _ _) _) _) hb
  have R := X.2.2.go hb
  clear X
  have hr0 := R.at0
  have hr1 := R.at1
  have hf0 := R.fz 0
  have hf1 := R.fz 1
  go_wp2_with fail
  refine bodyPost_ret (v := .tuple #[.agg #[.int .i64 (mkFr (a * c) (b * d)).1.1, .int .i64 (mkFr (a * c) (b * d)).1.2], .bool (mkFr (a * c) (b * d)).2]) (by simp [results, Try.results60, go_sem, *]) rfl ⟨?_, ?_⟩
  · rfl
  · (repeat (first | exact bel | refine Below.drew ?_ | refine bel_set ?_ (by first | exact Nat.le_refl _ | (dsimp only; omega) | omega) _ | refine bel_alloc ?_ _))
theorem mul_c (a b c d : Int) (w : World) (h : (-1000000000 ≤ a ∧ a ≤ 1000000000 ∧ 1 ≤ b ∧ b ≤ 1000000000) ∧ -1000000000 ≤ c ∧ c ≤ 1000000000 ∧ 1 ≤ d ∧ d ≤ 1000000000) (hd : b * d ≠ 0) :
    Calls Try.prog 61 #[.agg #[.int .i64 a, .int .i64 b], .agg #[.int .i64 c, .int .i64 d]] w fun e w' =>
      e = .returned (.agg #[.int .i64 (lowN (a * c) (b * d)), .int .i64 (lowD (a * c) (b * d))]) ∧ Below w.heap.size w w' := by
  obtain ⟨⟨p1, p2⟩, ⟨p3, p4⟩, ⟨p5, p6⟩, ⟨p7, p8⟩, p9, p10⟩ := prods h
  have X := bx3 w [.int .i64 a, .int .i64 b] [.int .i64 c, .int .i64 d] [.int .i64 0, .int .i64 0] 25 25 25
  have HD := Lib.hid hd
  clear hd
  go_enter Try.func61, Try.ntmps61
  go_wp2_with fail
  refine (lowest_c _ _ _ HD.out (by omega) (by omega) (by omega) (by omega)).mono ?_; rintro e w1 ⟨rfl, hb⟩
  have bel := bel_step (bel_alloc (bel_alloc (bel_new _ _) _) _) hb
  have R := X.2.2.go hb
  clear X
  have hr0 := R.at0
  have hr1 := R.at1
  have hf0 := R.fz 0
  have hf1 := R.fz 1
  go_wp2_with fail
  refine bodyPost_ret (v := .agg #[.int .i64 (lowN (a * c) (b * d)), .int .i64 (lowD (a * c) (b * d))]) (by simp [results, Try.results61, go_sem, *]) rfl ⟨?_, ?_⟩
  · rfl
  · (repeat (first | exact bel | refine Below.drew ?_ | refine bel_set ?_ (by first | exact Nat.le_refl _ | (dsimp only; omega) | omega) _ | refine bel_alloc ?_ _))
theorem specMultiplyFracs_c (a b c d : Int) (w : World) :
    Calls Try.prog 30 #[.agg #[.int .i64 a, .int .i64 b], .agg #[.int .i64 c, .int .i64 d]] w fun e w' =>
      e = .returned (.tuple #[.agg #[.int .i64 (pMul a b c d).1.1, .int .i64 (pMul a b c d).1.2], .bool (pMul a b c d).2]) ∧ Below w.heap.size w w' := by
  have X := bx3 w [.int .i64 a, .int .i64 b] [.int .i64 c, .int .i64 d] [.int .i64 0, .int .i64 0] 25 25 25
  cases h : twoFr a b c d
  · have HP : Hid (pMul a b c d = ((0, 0), false)) := Lib.hid (by rw [pMul, h]; rfl)
    have H := Lib.hid h
    clear h
    go_enter Try.func30, Try.ntmps30
    go_wp2_with fail
    refine (frTwo_c _ _ _ _ _).mono ?_; rw [H.out]; rintro e w1 ⟨rfl, hb⟩
    have bel := bel_step (bel_alloc (bel_alloc (bel_new _ _) _) _) hb
    have R := X.2.2.go hb
    clear X
    have hr0 := R.at0
    have hr1 := R.at1
    have hf0 := R.fz 0
    have hf1 := R.fz 1
    go_wp2_with fail
    refine bodyPost_ret (v := .tuple #[.agg #[.int .i64 0, .int .i64 0], .bool false]) (by simp [results, Try.results30, go_sem, *]) rfl ⟨?_, ?_⟩
    · rw [HP.out]
    · (repeat (first | exact bel | refine Below.drew ?_ | refine bel_set ?_ (by first | exact Nat.le_refl _ | (dsimp only; omega) | omega) _ | refine bel_alloc ?_ _))
  · have HP : Hid (pMul a b c d = mkFr (a * c) (b * d)) := Lib.hid (by rw [pMul, h]; rfl)
    have hbd := twoFr_bd h
    have H := Lib.hid h
    clear h
    go_enter Try.func30, Try.ntmps30
    go_wp2_with fail
    refine (frTwo_c _ _ _ _ _).mono ?_; rw [H.out]; rintro e w1 ⟨rfl, hb⟩
    have bel := bel_step (bel_alloc (bel_alloc (bel_new _ _) _) _) hb
    have P := X.1.go hb
    have Q := X.2.1.go hb
    have R := X.2.2.go hb
    clear X
    have hp0 := P.at0
    have hp1 := P.at1
    have hq0 := Q.at0
    have hq1 := Q.at1
    go_wp2_with fail
    refine (frMul_c _ _ _ _ _ hbd).mono ?_; rintro e w2 ⟨rfl, hb2⟩
    have bel := bel_step bel hb2
    have R := R.go hb2
    have hr0 := R.at0
    have hr1 := R.at1
    have hf0 := R.fz 0
    have hf1 := R.fz 1
    go_wp2_with fail
    refine bodyPost_ret (v := .tuple #[.agg #[.int .i64 (mkFr (a * c) (b * d)).1.1, .int .i64 (mkFr (a * c) (b * d)).1.2], .bool (mkFr (a * c) (b * d)).2]) (by simp [results, Try.results30, go_sem, *]) rfl ⟨?_, ?_⟩
    · rw [HP.out]
    · (repeat (first | exact bel | refine Below.drew ?_ | refine bel_set ?_ (by first | exact Nat.le_refl _ | (dsimp only; omega) | omega) _ | refine bel_alloc ?_ _))
theorem implMultiplyFracs_c (a b c d : Int) (w : World) :
    Calls Try.prog 31 #[.agg #[.int .i64 a, .int .i64 b], .agg #[.int .i64 c, .int .i64 d]] w fun e w' =>
      e = .returned (.tuple #[.agg #[.int .i64 (pMul a b c d).1.1, .int .i64 (pMul a b c d).1.2], .bool (pMul a b c d).2]) ∧ Below w.heap.size w w' := by
  have X := bx3 w [.int .i64 a, .int .i64 b] [.int .i64 c, .int .i64 d] [.int .i64 0, .int .i64 0] 25 25 25
  have S := Bx.new (((w.alloc (.cells #[.int .i64 a, .int .i64 b] 25)).alloc (.cells #[.int .i64 c, .int .i64 d] 25)).alloc (.cells #[.int .i64 0, .int .i64 0] 25)) [.int .i64 a, .int .i64 b, .int .i64 c, .int .i64 d] 25
  cases h : twoFr a b c d
  · have HP : Hid (pMul a b c d = ((0, 0), false)) := Lib.hid (by rw [pMul, h]; rfl)
    have H := Lib.hid h
    clear h
    go_enter Try.func31, Try.ntmps31
    go_wp2_with fail
    refine (areFracs_c _ _ _ _ _ _ (by simpa using S)).mono ?_; rw [H.out]; rintro e w1 ⟨rfl, hb⟩
    have bel := bel_step (bel_alloc (bel_alloc (bel_alloc (bel_new _ _) _) _) _) hb
    have R := (X.2.2.alloc _).go hb
    clear X S
    have hr0 := R.at0
    have hr1 := R.at1
    have hf0 := R.fz 0
    have hf1 := R.fz 1
    go_wp2_with fail
    refine bodyPost_ret (v := .tuple #[.agg #[.int .i64 0, .int .i64 0], .bool false]) (by simp [results, Try.results31, go_sem, *]) rfl ⟨?_, ?_⟩
    · rw [HP.out]
    · (repeat (first | exact bel | refine Below.drew ?_ | refine bel_set ?_ (by first | exact Nat.le_refl _ | (dsimp only; omega) | omega) _ | refine bel_alloc ?_ _))
  · have hbd := twoFr_bd h
    have hne : b * d ≠ 0 := by have := (prods hbd).2.2.1; omega
    have HP0 := mkFr_if (n := a * c) hne
    have e : pMul a b c d = mkFr (a * c) (b * d) := by rw [pMul, h]; rfl
    rw [← e] at HP0
    have HP := Lib.hid HP0
    clear e HP0
    have H := Lib.hid h
    clear h
    go_enter Try.func31, Try.ntmps31
    go_wp2_with fail
    refine (areFracs_c _ _ _ _ _ _ (by simpa using S)).mono ?_; rw [H.out]; rintro e w1 ⟨rfl, hb⟩
    have bel := bel_step (bel_alloc (bel_alloc (bel_alloc (bel_new _ _) _) _) _) hb
    have P := (X.1.alloc _).go hb
    have Q := (X.2.1.alloc _).go hb
    have R := (X.2.2.alloc _).go hb
    clear X S
    have hp0 := P.at0
    have hp1 := P.at1
    have hq0 := Q.at0
    have hq1 := Q.at1
    go_wp2_with fail
    refine (mul_c _ _ _ _ _ hbd hne).mono ?_; rintro e w2 ⟨rfl, hb2⟩
    have bel := bel_step bel hb2
    have R := R.go hb2
    go_wp2_with fail
    refine (toldFrac_c _ _ _).mono ?_; rintro e w3 ⟨rfl, hb3⟩
    have bel := bel_step bel hb3
    have R := R.go hb3
    have hr0 := R.at0
    have hr1 := R.at1
    have hf0 := R.fz 0
    have hf1 := R.fz 1
    go_wp2_with fail
    refine bodyPost_ret (v := .tuple #[.agg #[.int .i64 (okN (lowN (a * c) (b * d)) (lowD (a * c) (b * d))), .int .i64 (okD (lowN (a * c) (b * d)) (lowD (a * c) (b * d)))], .bool (isFr (lowN (a * c) (b * d)) (lowD (a * c) (b * d)))]) (by simp [results, Try.results31, go_sem, *]) rfl ⟨?_, ?_⟩
    · rw [HP.out]
    · (repeat (first | exact bel | refine Below.drew ?_ | refine bel_set ?_ (by first | exact Nat.le_refl _ | (dsimp only; omega) | omega) _ | refine bel_alloc ?_ _))
theorem frDiv_c (a b c d : Int) (w : World) (h : (-1000000000 ≤ a ∧ a ≤ 1000000000 ∧ 1 ≤ b ∧ b ≤ 1000000000) ∧ -1000000000 ≤ c ∧ c ≤ 1000000000 ∧ 1 ≤ d ∧ d ≤ 1000000000) :
    Calls Try.prog 58 #[.agg #[.int .i64 a, .int .i64 b], .agg #[.int .i64 c, .int .i64 d]] w fun e w' =>
      e = .returned (.tuple #[.agg #[.int .i64 (mkFr (a * d) (b * c)).1.1, .int .i64 (mkFr (a * d) (b * c)).1.2], .bool (mkFr (a * d) (b * c)).2]) ∧ Below w.heap.size w w' := by
  obtain ⟨⟨p1, p2⟩, ⟨p3, p4⟩, ⟨p5, p6⟩, ⟨p7, p8⟩, p9, p10⟩ := prods h
  have X := bx3 w [.int .i64 a, .int .i64 b] [.int .i64 c, .int .i64 d] [.int .i64 0, .int .i64 0] 25 25 25
  go_enter Try.func58, Try.ntmps58
  go_wp2_with fail
  refine (frMake_c _ _ _ (by omega) (by omega) (by omega) (by omega)).mono ?_; rintro e w1 ⟨rfl, hb⟩
  have bel := bel_step (bel_alloc (bel_alloc (bel_new _ _) _) _) hb
  have R := X.2.2.go hb
  clear X
  have hr0 := R.at0
  have hr1 := R.at1
  have hf0 := R.fz 0
  have hf1 := R.fz 1
  go_wp2_with fail
  refine bodyPost_ret (v := .tuple #[.agg #[.int .i64 (mkFr (a * d) (b * c)).1.1, .int .i64 (mkFr (a * d) (b * c)).1.2], .bool (mkFr (a * d) (b * c)).2]) (by simp [results, Try.results58, go_sem, *]) rfl ⟨?_, ?_⟩
  · rfl
  · (repeat (first | exact bel | refine Below.drew ?_ | refine bel_set ?_ (by first | exact Nat.le_refl _ | (dsimp only; omega) | omega) _ | refine bel_alloc ?_ _))
theorem div_c (a b c d : Int) (w : World) (h : (-1000000000 ≤ a ∧ a ≤ 1000000000 ∧ 1 ≤ b ∧ b ≤ 1000000000) ∧ -1000000000 ≤ c ∧ c ≤ 1000000000 ∧ 1 ≤ d ∧ d ≤ 1000000000) (hd : b * c ≠ 0) :
    Calls Try.prog 59 #[.agg #[.int .i64 a, .int .i64 b], .agg #[.int .i64 c, .int .i64 d]] w fun e w' =>
      e = .returned (.agg #[.int .i64 (lowN (a * d) (b * c)), .int .i64 (lowD (a * d) (b * c))]) ∧ Below w.heap.size w w' := by
  obtain ⟨⟨p1, p2⟩, ⟨p3, p4⟩, ⟨p5, p6⟩, ⟨p7, p8⟩, p9, p10⟩ := prods h
  have X := bx3 w [.int .i64 a, .int .i64 b] [.int .i64 c, .int .i64 d] [.int .i64 0, .int .i64 0] 25 25 25
  have HD := Lib.hid hd
  clear hd
  go_enter Try.func59, Try.ntmps59
  go_wp2_with fail
  refine (lowest_c _ _ _ HD.out (by omega) (by omega) (by omega) (by omega)).mono ?_; rintro e w1 ⟨rfl, hb⟩
  have bel := bel_step (bel_alloc (bel_alloc (bel_new _ _) _) _) hb
  have R := X.2.2.go hb
  clear X
  have hr0 := R.at0
  have hr1 := R.at1
  have hf0 := R.fz 0
  have hf1 := R.fz 1
  go_wp2_with fail
  refine bodyPost_ret (v := .agg #[.int .i64 (lowN (a * d) (b * c)), .int .i64 (lowD (a * d) (b * c))]) (by simp [results, Try.results59, go_sem, *]) rfl ⟨?_, ?_⟩
  · rfl
  · (repeat (first | exact bel | refine Below.drew ?_ | refine bel_set ?_ (by first | exact Nat.le_refl _ | (dsimp only; omega) | omega) _ | refine bel_alloc ?_ _))
theorem specDivideFracs_c (a b c d : Int) (w : World) :
    Calls Try.prog 28 #[.agg #[.int .i64 a, .int .i64 b], .agg #[.int .i64 c, .int .i64 d]] w fun e w' =>
      e = .returned (.tuple #[.agg #[.int .i64 (pDiv a b c d).1.1, .int .i64 (pDiv a b c d).1.2], .bool (pDiv a b c d).2]) ∧ Below w.heap.size w w' := by
  have X := bx3 w [.int .i64 a, .int .i64 b] [.int .i64 c, .int .i64 d] [.int .i64 0, .int .i64 0] 25 25 25
  cases h : twoFr a b c d
  · have HP : Hid (pDiv a b c d = ((0, 0), false)) := Lib.hid (by rw [pDiv, h]; rfl)
    have H := Lib.hid h
    clear h
    go_enter Try.func28, Try.ntmps28
    go_wp2_with fail
    refine (frTwo_c _ _ _ _ _).mono ?_; rw [H.out]; rintro e w1 ⟨rfl, hb⟩
    have bel := bel_step (bel_alloc (bel_alloc (bel_new _ _) _) _) hb
    have R := X.2.2.go hb
    clear X
    have hr0 := R.at0
    have hr1 := R.at1
    have hf0 := R.fz 0
    have hf1 := R.fz 1
    go_wp2_with fail
    refine bodyPost_ret (v := .tuple #[.agg #[.int .i64 0, .int .i64 0], .bool false]) (by simp [results, Try.results28, go_sem, *]) rfl ⟨?_, ?_⟩
    · rw [HP.out]
    · (repeat (first | exact bel | refine Below.drew ?_ | refine bel_set ?_ (by first | exact Nat.le_refl _ | (dsimp only; omega) | omega) _ | refine bel_alloc ?_ _))
  · have HP : Hid (pDiv a b c d = mkFr (a * d) (b * c)) := Lib.hid (by rw [pDiv, h]; rfl)
    have hbd := twoFr_bd h
    have H := Lib.hid h
    clear h
    go_enter Try.func28, Try.ntmps28
    go_wp2_with fail
    refine (frTwo_c _ _ _ _ _).mono ?_; rw [H.out]; rintro e w1 ⟨rfl, hb⟩
    have bel := bel_step (bel_alloc (bel_alloc (bel_new _ _) _) _) hb
    have P := X.1.go hb
    have Q := X.2.1.go hb
    have R := X.2.2.go hb
    clear X
    have hp0 := P.at0
    have hp1 := P.at1
    have hq0 := Q.at0
    have hq1 := Q.at1
    go_wp2_with fail
    refine (frDiv_c _ _ _ _ _ hbd).mono ?_; rintro e w2 ⟨rfl, hb2⟩
    have bel := bel_step bel hb2
    have R := R.go hb2
    have hr0 := R.at0
    have hr1 := R.at1
    have hf0 := R.fz 0
    have hf1 := R.fz 1
    go_wp2_with fail
    refine bodyPost_ret (v := .tuple #[.agg #[.int .i64 (mkFr (a * d) (b * c)).1.1, .int .i64 (mkFr (a * d) (b * c)).1.2], .bool (mkFr (a * d) (b * c)).2]) (by simp [results, Try.results28, go_sem, *]) rfl ⟨?_, ?_⟩
    · rw [HP.out]
    · (repeat (first | exact bel | refine Below.drew ?_ | refine bel_set ?_ (by first | exact Nat.le_refl _ | (dsimp only; omega) | omega) _ | refine bel_alloc ?_ _))
end Go.Proofs.Ytbmnighaphbbgaa
