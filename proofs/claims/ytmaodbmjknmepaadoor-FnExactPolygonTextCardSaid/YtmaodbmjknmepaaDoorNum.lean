/- The walks of the functions on numbers (both packages): each computes its plain function. -/
import Derived.Test.YtmaodbmjknmepaaDoorRows
import Derived.Test.YtmaodbmjknmepaaDoorPure
namespace Go.Proofs.YtmaodbmjknmepaaDoor
open Go.RowKit

theorem l1In_c (n a b : Int) (w : World) : Calls Tryd.prog 24 #[.int .i64 n, .int .i64 a, .int .i64 b] w fun e w' => e = .returned (.bool (decide (a ≤ n) && decide (n ≤ b))) ∧ w = w' := by
  by_cases h : a ≤ n <;> by_cases h2 : n ≤ b
  all_goals
    go_enter Tryd.func24, Tryd.ntmps24
    go_wp2
    go_ret
    exact ⟨by simp [h, h2], rfl⟩
theorem within_c (n a b : Int) (w : World) : Calls Tryd.prog 28 #[.int .i64 n, .int .i64 a, .int .i64 b] w fun e w' => e = .returned (.bool (decide (a ≤ n) && decide (n ≤ b))) ∧ w = w' := by
  by_cases h : a ≤ n <;> by_cases h2 : n ≤ b
  all_goals
    go_enter Tryd.func28, Tryd.ntmps28
    go_wp2
    go_ret
    exact ⟨by simp [h, h2], rfl⟩
/- Running through a list -/
end Go.Proofs.YtmaodbmjknmepaaDoor
