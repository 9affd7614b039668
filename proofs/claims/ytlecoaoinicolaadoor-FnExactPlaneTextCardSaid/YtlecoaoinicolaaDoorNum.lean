/- The walks of the functions on numbers (both packages): each computes its plain function. -/
import Derived.Test.YtlecoaoinicolaaDoorRows
import Derived.Test.YtlecoaoinicolaaDoorPure
namespace Go.Proofs.YtlecoaoinicolaaDoor
open Go.RowKit

theorem l1In_c (n a b : Int) (w : World) : Calls Tryd.prog 17 #[.int .i64 n, .int .i64 a, .int .i64 b] w fun e w' => e = .returned (.bool (decide (a ≤ n) && decide (n ≤ b))) ∧ w = w' := by
  by_cases h : a ≤ n <;> by_cases h2 : n ≤ b
  all_goals
    go_enter Tryd.func17, Tryd.ntmps17
    go_wp2
    go_ret
    exact ⟨by simp [h, h2], rfl⟩
theorem within_c (n a b : Int) (w : World) : Calls Tryd.prog 20 #[.int .i64 n, .int .i64 a, .int .i64 b] w fun e w' => e = .returned (.bool (decide (a ≤ n) && decide (n ≤ b))) ∧ w = w' := by
  by_cases h : a ≤ n <;> by_cases h2 : n ≤ b
  all_goals
    go_enter Tryd.func20, Tryd.ntmps20
    go_wp2
    go_ret
    exact ⟨by simp [h, h2], rfl⟩
theorem isFinite_c (n : Int) (w : World) : Calls Tryd.prog 21 #[.int .i64 n] w fun e w' => e = .returned (.bool (isFin n)) ∧ w = w' := by
  by_cases h : -1000000 ≤ n <;> by_cases h2 : n ≤ 1000000
  all_goals
    go_enter Tryd.func21, Tryd.ntmps21
    go_wp2
    go_ret
    exact ⟨by simp [isFin, h, h2], rfl⟩
/- Running through a list -/
end Go.Proofs.YtlecoaoinicolaaDoor
