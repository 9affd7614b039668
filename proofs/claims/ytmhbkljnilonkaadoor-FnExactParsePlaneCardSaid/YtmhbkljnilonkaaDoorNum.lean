/- The walks of the functions on numbers (both packages): each computes its plain function. -/
import Derived.Test.YtmhbkljnilonkaaDoorRows
import Derived.Test.YtmhbkljnilonkaaDoorPure
namespace Go.Proofs.YtmhbkljnilonkaaDoor
open Go.RowKit

theorem l1In_c (n a b : Int) (w : World) : Calls Tryd.prog 31 #[.int .i64 n, .int .i64 a, .int .i64 b] w fun e w' => e = .returned (.bool (decide (a ≤ n) && decide (n ≤ b))) ∧ w = w' := by
  by_cases h : a ≤ n <;> by_cases h2 : n ≤ b
  all_goals
    go_enter Tryd.func31, Tryd.ntmps31
    go_wp2
    go_ret
    exact ⟨by simp [h, h2], rfl⟩
theorem within_c (n a b : Int) (w : World) : Calls Tryd.prog 24 #[.int .i64 n, .int .i64 a, .int .i64 b] w fun e w' => e = .returned (.bool (decide (a ≤ n) && decide (n ≤ b))) ∧ w = w' := by
  by_cases h : a ≤ n <;> by_cases h2 : n ≤ b
  all_goals
    go_enter Tryd.func24, Tryd.ntmps24
    go_wp2
    go_ret
    exact ⟨by simp [h, h2], rfl⟩
theorem isFinite_c (n : Int) (w : World) : Calls Tryd.prog 25 #[.int .i64 n] w fun e w' => e = .returned (.bool (isFin n)) ∧ w = w' := by
  by_cases h : -1000000 ≤ n <;> by_cases h2 : n ≤ 1000000
  all_goals
    go_enter Tryd.func25, Tryd.ntmps25
    go_wp2
    go_ret
    exact ⟨by simp [isFin, h, h2], rfl⟩
theorem nuGood_c (n : Int) (w : World) : Calls Tryd.prog 29 #[.int .i64 n] w fun e w' => e = .returned (.bool (isNum n)) ∧ w = w' := by
  by_cases h : -1000000 ≤ n <;> by_cases h2 : n ≤ 1000000 <;> by_cases h3 : n = 1000000000
  all_goals try omega
  all_goals
    go_enter Tryd.func29, Tryd.ntmps29
    go_wp2
    go_ret
    exact ⟨by simp [isNum, isFin, h, h2, h3], rfl⟩
/- Running through a list -/
end Go.Proofs.YtmhbkljnilonkaaDoor
