/- The walks of the functions on numbers (both packages): each computes its plain function. -/
import Derived.Test.YtlfpljmggjioaaaDoorRows
import Derived.Test.YtlfpljmggjioaaaDoorPure
namespace Go.Proofs.YtlfpljmggjioaaaDoor
open Go.RowKit

theorem l1In_c (n a b : Int) (w : World) : Calls Tryd.prog 14 #[.int .i64 n, .int .i64 a, .int .i64 b] w fun e w' => e = .returned (.bool (decide (a ≤ n) && decide (n ≤ b))) ∧ w = w' := by
  by_cases h : a ≤ n <;> by_cases h2 : n ≤ b
  all_goals
    go_enter Tryd.func14, Tryd.ntmps14
    go_wp2
    go_ret
    exact ⟨by simp [h, h2], rfl⟩
theorem isFinite_c (n : Int) (w : World) : Calls Tryd.prog 12 #[.int .i64 n] w fun e w' => e = .returned (.bool (isFin n)) ∧ w = w' := by
  by_cases h : -1000000 ≤ n <;> by_cases h2 : n ≤ 1000000
  all_goals
    go_enter Tryd.func12, Tryd.ntmps12
    go_wp2
    go_ret
    exact ⟨by simp [isFin, h, h2], rfl⟩
theorem nuGood_c (n : Int) (w : World) : Calls Tryd.prog 9 #[.int .i64 n] w fun e w' => e = .returned (.bool (isNum n)) ∧ w = w' := by
  by_cases h : -1000000 ≤ n <;> by_cases h2 : n ≤ 1000000 <;> by_cases h3 : n = 1000000000
  all_goals try omega
  all_goals
    go_enter Tryd.func9, Tryd.ntmps9
    go_wp2
    go_ret
    exact ⟨by simp [isNum, isFin, h, h2, h3], rfl⟩
/- Running through a list -/
end Go.Proofs.YtlfpljmggjioaaaDoor
