/- The law on a single point: both packages' functions, and the walk of the law. -/
import Derived.Test.YtfkglbmdpefigaaGreatDoorNum
namespace Go.Proofs.YtfkglbmdpefigaaGreatDoor
open Go.RowKit
def isPt (x y : Int) : Bool := (decide (-100 ≤ x) && decide (x ≤ 100)) && (decide (-100 ≤ y) && decide (y ≤ 100))
theorem isPt_iff (x y : Int) : isPt x y = true ↔ -100 ≤ x ∧ x ≤ 100 ∧ -100 ≤ y ∧ y ≤ 100 := by simp [isPt, and_assoc]
theorem isPoint_c (x y : Int) (w : World) : Calls Tryz.prog 43 #[.agg #[.int .i64 x, .int .i64 y]] w fun e w' => e = .returned (.bool (isPt x y)) ∧ Below w.heap.size w w' := by
  cases h1 : (decide (-100 ≤ x) && decide (x ≤ 100)) <;> cases h2 : (decide (-100 ≤ y) && decide (y ≤ 100))
  all_goals
    have H : Hid (isPt x y = ((decide (-100 ≤ x) && decide (x ≤ 100)) && (decide (-100 ≤ y) && decide (y ≤ 100)))) := Lib.hid rfl
    rw [h1, h2] at H
    have H1 := Lib.hid h1
    have H2 := Lib.hid h2
    clear h1 h2
    go_enter Tryz.func43, Tryz.ntmps43
    go_wp2_with (go_at_call 40; refine (within_c _ _ _ _).mono ?_; (first | rw [H1.out] | rw [H2.out]); rintro e w' ⟨rfl, rfl⟩)
    go_ret
    exact ⟨by rw [H.out]; rfl, bel_new _ _⟩
theorem pyOne_c (x y : Int) (w : World) : Calls Tryz.prog 32 #[.agg #[.int .i64 x, .int .i64 y]] w fun e w' => e = .returned (.bool (isPt x y)) ∧ Below w.heap.size w w' := by
  cases h1 : (decide (-100 ≤ x) && decide (x ≤ 100)) <;> cases h2 : (decide (-100 ≤ y) && decide (y ≤ 100))
  all_goals
    have H : Hid (isPt x y = ((decide (-100 ≤ x) && decide (x ≤ 100)) && (decide (-100 ≤ y) && decide (y ≤ 100)))) := Lib.hid rfl
    rw [h1, h2] at H
    have H1 := Lib.hid h1
    have H2 := Lib.hid h2
    clear h1 h2
    go_enter Tryz.func32, Tryz.ntmps32
    go_wp2_with (go_at_call 31; refine (l1In_c _ _ _ _).mono ?_; (first | rw [H1.out] | rw [H2.out]); rintro e w' ⟨rfl, rfl⟩)
    go_ret
    exact ⟨by rw [H.out]; rfl, bel_new _ _⟩
end Go.Proofs.YtfkglbmdpefigaaGreatDoor
