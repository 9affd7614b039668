/- The text of a number: both packages' functions, and the walk of its law. -/
import Derived.Test.YtkblommonimpfaaDoorNum
import Derived.Test.YtkblommonimpfaaDoorWTxt
namespace Go.Proofs.YtkblommonimpfaaDoor
open Go.RowKit
def infT : ByteArray := ⟨#[105, 110, 102]⟩
def nText (n : Int) : ByteArray := if n = 1000000000 then infT else itoT n
def nTextOf (n : Int) : ByteArray × Bool := if isNum n then (nText n, true) else (⟨#[]⟩, false)
theorem nText_size {n : Int} (h : isNum n = true) : (nText n).size ≤ 1000002 := by
  rw [isNum_iff] at h
  unfold nText
  by_cases hn : n = 1000000000
  · rw [if_pos hn]; decide
  · rw [if_neg hn]
    have := itoT_size n
    omega
theorem nuText_c (n : Int) (h : isNum n = true) (w : World) : Calls Tryd.prog 16 #[.int .i64 n] w fun e w' => e = .returned (.string (nText n)) ∧ Below w.heap.size w w' := by
  by_cases hn : n = 1000000000
  · have H : Hid (nText n = infT) := Lib.hid (by rw [nText, if_pos hn])
    subst hn
    clear h
    go_enter Tryd.func16, Tryd.ntmps16
    go_wp2_with fail
    go_ret
    exact ⟨by rw [H.out]; rfl, Below.refl _ _⟩
  · have H : Hid (nText n = itoT n) := Lib.hid (by rw [nText, if_neg hn])
    have hb : -1000000 ≤ n ∧ n ≤ 1000000 := by rw [isNum_iff] at h; omega
    clear h
    have C := fun w => l1Int_c n (by omega) (by omega) w
    go_enter Tryd.func16, Tryd.ntmps16
    go_wp2_with fail
    refine (C _).mono ?_; rintro e u1 ⟨rfl, hb1⟩
    go_wp2_with fail
    go_ret
    exact ⟨by rw [H.out]; try rfl, hb1⟩
end Go.Proofs.YtkblommonimpfaaDoor
