/- The walks of the functions on numbers (both packages): each computes its plain function. -/
import Derived.Test.YtfkglbmdpefigaaGreatDoorRows
import Derived.Test.YtfkglbmdpefigaaGreatDoorPure
namespace Go.Proofs.YtfkglbmdpefigaaGreatDoor
open Go.RowKit

theorem l1In_c (n a b : Int) (w : World) : Calls Tryz.prog 31 #[.int .i64 n, .int .i64 a, .int .i64 b] w fun e w' => e = .returned (.bool (decide (a ≤ n) && decide (n ≤ b))) ∧ w = w' := by
  by_cases h : a ≤ n <;> by_cases h2 : n ≤ b
  all_goals
    go_enter Tryz.func31, Tryz.ntmps31
    go_wp2
    go_ret
    exact ⟨by simp [h, h2], rfl⟩
theorem within_c (n a b : Int) (w : World) : Calls Tryz.prog 40 #[.int .i64 n, .int .i64 a, .int .i64 b] w fun e w' => e = .returned (.bool (decide (a ≤ n) && decide (n ≤ b))) ∧ w = w' := by
  by_cases h : a ≤ n <;> by_cases h2 : n ≤ b
  all_goals
    go_enter Tryz.func40, Tryz.ntmps40
    go_wp2
    go_ret
    exact ⟨by simp [h, h2], rfl⟩
/- Running through a list -/
end Go.Proofs.YtfkglbmdpefigaaGreatDoor
