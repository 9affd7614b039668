/- The walks of the functions on polynomials in one unknown (both packages), each against its plain function. -/
import Derived.Test.YtmhbkljnilonkaaDoorList
import Derived.Test.YtmhbkljnilonkaaDoorPurePoly
import Derived.Deep.RegionWith
namespace Go.Proofs.YtmhbkljnilonkaaDoor
open Go.RowKit
theorem isPol_cases {p : List Int} {n : Nat} {x y z : Bool} (hl : p.length = n) (h1 : (decide (1 ≤ (n : Int)) && decide ((n : Int) ≤ 13)) = x) (h2 : p.all isNum = y) (h3 : (p.getD (n - 1) 0 != 1000000000) = z) : isPol p = (x && y && z) := by
  rw [isPol, hl, h2, ← h1, ← h3]
  congr 2
  rw [Bool.eq_iff_iff]
  simp only [decide_eq_true_eq, Bool.and_eq_true]
  omega
theorem isPol_no1 {p : List Int} {n : Nat} (hl : p.length = n) (h1 : (decide (1 ≤ (n : Int)) && decide ((n : Int) ≤ 13)) = false) : isPol p = false := by
  rw [isPol_cases hl h1 rfl rfl]; rfl
theorem poFinite_c (n : Int) (w : World) : Calls Tryd.prog 41 #[.int .i64 n] w fun e w' => e = .returned (.bool (isFin n)) ∧ w = w' := by
  have H : Hid (isFin n = (decide (-1000000 ≤ n) && decide (n ≤ 1000000))) := Lib.hid rfl
  go_enter Tryd.func41, Tryd.ntmps41
  go_wp2_with (go_at_call 31; refine (l1In_c _ _ _ _).mono ?_; rw [← H.out]; rintro e w' ⟨rfl, rfl⟩)
  go_ret
  exact ⟨rfl, rfl⟩
end Go.Proofs.YtmhbkljnilonkaaDoor
