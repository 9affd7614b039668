/- The law on a single point: both packages' functions, and the walk of the law. -/
import Derived.Test.YtmaodbmjknmepaaDoorNum
namespace Go.Proofs.YtmaodbmjknmepaaDoor
open Go.RowKit
def isPt (x y : Int) : Bool := (decide (-100 ≤ x) && decide (x ≤ 100)) && (decide (-100 ≤ y) && decide (y ≤ 100))
theorem isPt_iff (x y : Int) : isPt x y = true ↔ -100 ≤ x ∧ x ≤ 100 ∧ -100 ≤ y ∧ y ≤ 100 := by simp [isPt, and_assoc]
theorem isPoint_c (x y : Int) (w : World) : Calls Tryd.prog 31 #[.agg #[.int .i64 x, .int .i64 y]] w fun e w' => e = .returned (.bool (isPt x y)) ∧ Below w.heap.size w w' := by
  cases h1 : (decide (-100 ≤ x) && decide (x ≤ 100)) <;> cases h2 : (decide (-100 ≤ y) && decide (y ≤ 100))
  all_goals
    have H : Hid (isPt x y = ((decide (-100 ≤ x) && decide (x ≤ 100)) && (decide (-100 ≤ y) && decide (y ≤ 100)))) := Lib.hid rfl
    rw [h1, h2] at H
    have H1 := Lib.hid h1
    have H2 := Lib.hid h2
    clear h1 h2
    go_enter Tryd.func31, Tryd.ntmps31
    go_wp2_with (go_at_call 28; refine (within_c _ _ _ _).mono ?_; (first | rw [H1.out] | rw [H2.out]); rintro e w' ⟨rfl, rfl⟩)
    go_ret
    exact ⟨by rw [H.out]; rfl, bel_new _ _⟩
theorem pyOne_c (x y : Int) (w : World) : Calls Tryd.prog 23 #[.agg #[.int .i64 x, .int .i64 y]] w fun e w' => e = .returned (.bool (isPt x y)) ∧ Below w.heap.size w w' := by
  cases h1 : (decide (-100 ≤ x) && decide (x ≤ 100)) <;> cases h2 : (decide (-100 ≤ y) && decide (y ≤ 100))
  all_goals
    have H : Hid (isPt x y = ((decide (-100 ≤ x) && decide (x ≤ 100)) && (decide (-100 ≤ y) && decide (y ≤ 100)))) := Lib.hid rfl
    rw [h1, h2] at H
    have H1 := Lib.hid h1
    have H2 := Lib.hid h2
    clear h1 h2
    go_enter Tryd.func23, Tryd.ntmps23
    go_wp2_with (go_at_call 24; refine (l1In_c _ _ _ _).mono ?_; (first | rw [H1.out] | rw [H2.out]); rintro e w' ⟨rfl, rfl⟩)
    go_ret
    exact ⟨by rw [H.out]; rfl, bel_new _ _⟩
theorem toPoint_c (x y : Int) (w : World) : Calls Tryd.prog 11 #[.agg #[.int .i64 x, .int .i64 y]] w fun e w' => e = .returned (.agg #[.int .i64 x, .int .i64 y]) ∧ Below w.heap.size w w' := by
  go_enter Tryd.func11, Tryd.ntmps11
  go_wp2
  exact bodyPost_ret (v := .agg #[.int .i64 x, .int .i64 y]) (by simp [results, Tryd.results11, go_sem]) rfl ⟨rfl, bel_alloc (bel_alloc (bel_new _ _) _) _⟩
end Go.Proofs.YtmaodbmjknmepaaDoor
