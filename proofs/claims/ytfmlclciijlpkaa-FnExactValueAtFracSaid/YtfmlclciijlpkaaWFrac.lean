/- The laws on fractions: the walk of each law. -/
import Derived.Test.YtfmlclciijlpkaaFrac3
import Derived.Deep.RegionHeld3
namespace Go.Proofs.Ytfmlclciijlpkaa
open Go.RowKit
theorem toFrac_c (x y : Int) (w : World) : Calls Try.prog 15 #[.agg #[.int .i64 x, .int .i64 y]] w fun e w' => e = .returned (.agg #[.int .i64 x, .int .i64 y]) ∧ Below w.heap.size w w' := by
  go_enter Try.func15, Try.ntmps15
  go_wp2
  exact bodyPost_ret (v := .agg #[.int .i64 x, .int .i64 y]) (by simp [results, Try.results15, go_sem]) rfl ⟨rfl, bel_alloc (bel_alloc (bel_new _ _) _) _⟩
theorem eqFrac_c (x y : Int) (w : World) : Calls Try.prog 17 #[.agg #[.int .i64 x, .int .i64 y], .agg #[.int .i64 x, .int .i64 y]] w fun e w' => e = .returned (.bool true) ∧ Below w.heap.size w w' := by
  go_enter Try.func17, Try.ntmps17
  go_wp2
  go_ret
  exact ⟨rfl, bel_alloc (bel_new _ _) _⟩
end Go.Proofs.Ytfmlclciijlpkaa
