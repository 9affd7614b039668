/- Fractions: tests, rounding, comparing, making; both packages' functions against plain ones. -/
import Derived.Test.YtfmlclciijlpkaaFrac2
namespace Go.Proofs.Ytfmlclciijlpkaa
open Go.RowKit
/- Rounding -/
/- Comparing -/
theorem l1Sign_c (n : Int) (w : World) : Calls Try.prog 48 #[.int .i64 n] w fun e w' => e = .returned (.int .i64 (sgn n)) ∧ w = w' := by
  rcases (show n < 0 ∨ n = 0 ∨ 0 < n by omega) with h | h | h
  · have H : Hid (sgn n = -1) := Lib.hid (by rw [sgn, if_pos h])
    go_enter Try.func48, Try.ntmps48
    go_wp2_with fail
    go_ret
    exact ⟨retI H.out.symm, rfl⟩
  · have H : Hid (sgn n = 0) := Lib.hid (by rw [sgn, if_neg (by omega), if_neg (by omega)])
    have h1 : ¬ n < 0 := by omega
    have h2 : ¬ 0 < n := by omega
    clear h
    go_enter Try.func48, Try.ntmps48
    go_wp2_with fail
    go_ret
    exact ⟨retI H.out.symm, rfl⟩
  · have H : Hid (sgn n = 1) := Lib.hid (by rw [sgn, if_neg (by omega), if_pos h])
    go_enter Try.func48, Try.ntmps48
    go_wp2_with fail
    go_ret
    exact ⟨retI H.out.symm, rfl⟩
theorem frCmp_c (a b c d : Int) (w : World) (h : (-1000000000 ≤ a ∧ a ≤ 1000000000 ∧ 1 ≤ b ∧ b ≤ 1000000000) ∧ -1000000000 ≤ c ∧ c ≤ 1000000000 ∧ 1 ≤ d ∧ d ≤ 1000000000) :
    Calls Try.prog 34 #[.agg #[.int .i64 a, .int .i64 b], .agg #[.int .i64 c, .int .i64 d]] w fun e w' => e = .returned (.int .i64 (sgn (a * d - c * b))) ∧ Below w.heap.size w w' := by
  obtain ⟨⟨p1, p2⟩, ⟨p3, p4⟩, _⟩ := prods h
  go_enter Try.func34, Try.ntmps34
  go_wp2_with fail
  refine (l1Sign_c _ _).mono ?_; rintro e w1 ⟨rfl, rfl⟩
  go_wp2_with fail
  go_ret
  exact ⟨rfl, bel_alloc (bel_new _ _) _⟩
theorem compare_c (a b c d : Int) (w : World) (h : (-1000000000 ≤ a ∧ a ≤ 1000000000 ∧ 1 ≤ b ∧ b ≤ 1000000000) ∧ -1000000000 ≤ c ∧ c ≤ 1000000000 ∧ 1 ≤ d ∧ d ≤ 1000000000) :
    Calls Try.prog 38 #[.agg #[.int .i64 a, .int .i64 b], .agg #[.int .i64 c, .int .i64 d]] w fun e w' => e = .returned (.int .i64 (sgn (a * d - c * b))) ∧ Below w.heap.size w w' := by
  obtain ⟨⟨p1, p2⟩, ⟨p3, p4⟩, _⟩ := prods h
  rcases (show a * d - c * b < 0 ∨ a * d - c * b = 0 ∨ 0 < a * d - c * b by omega) with g | g | g
  · have H : Hid (sgn (a * d - c * b) = -1) := Lib.hid (by rw [sgn, if_pos g])
    go_enter Try.func38, Try.ntmps38
    go_wp2_with fail
    go_ret
    exact ⟨retI H.out.symm, bel_alloc (bel_new _ _) _⟩
  · have H : Hid (sgn (a * d - c * b) = 0) := Lib.hid (by rw [sgn, if_neg (by omega), if_neg (by omega)])
    have h1 : ¬ a * d - c * b < 0 := by omega
    have h2 : ¬ 0 < a * d - c * b := by omega
    clear g
    go_enter Try.func38, Try.ntmps38
    go_wp2_with fail
    go_ret
    exact ⟨retI H.out.symm, bel_alloc (bel_new _ _) _⟩
  · have H : Hid (sgn (a * d - c * b) = 1) := Lib.hid (by rw [sgn, if_neg (by omega), if_pos g])
    go_enter Try.func38, Try.ntmps38
    go_wp2_with fail
    go_ret
    exact ⟨retI H.out.symm, bel_alloc (bel_new _ _) _⟩
/- Making -/
end Go.Proofs.Ytfmlclciijlpkaa
