/- The walks of the functions on polynomials in one unknown (both packages), each against its plain function. -/
import Derived.Test.YtfamemjlhgkneaaList
import Derived.Test.YtfamemjlhgkneaaPurePoly
import Derived.Deep.RegionWith
namespace Go.Proofs.Ytfamemjlhgkneaa
open Go.RowKit
theorem isPol_cases {p : List Int} {n : Nat} {x y z : Bool} (hl : p.length = n) (h1 : (decide (1 ≤ (n : Int)) && decide ((n : Int) ≤ 13)) = x) (h2 : p.all isNum = y) (h3 : (p.getD (n - 1) 0 != 1000000000) = z) : isPol p = (x && y && z) := by
  rw [isPol, hl, h2, ← h1, ← h3]
  congr 2
  rw [Bool.eq_iff_iff]
  simp only [decide_eq_true_eq, Bool.and_eq_true]
  omega
theorem isPol_no1 {p : List Int} {n : Nat} (hl : p.length = n) (h1 : (decide (1 ≤ (n : Int)) && decide ((n : Int) ≤ 13)) = false) : isPol p = false := by
  rw [isPol_cases hl h1 rfl rfl]; rfl
theorem isPoly_c (A : Option Addr) (n c : Nat) (p : List Int) (B : Nat) (w : World) (h : Rd w B A n p) :
    Calls Try.prog 81 #[.slice A n c] w fun e w' => e = .returned (.bool (isPol p)) ∧ w = w' := by
  have hm := h.le
  cases h1 : (decide (1 ≤ (n : Int)) && decide ((n : Int) ≤ 13))
  · have H := Lib.hid (isPol_no1 h.len h1)
    have H1 := Lib.hid h1
    clear h1
    go_enter Try.func81, Try.ntmps81
    go_wp2_with (first
      | (go_at_call 67; refine (within_c _ _ _ _).mono ?_; rw [H1.out]; rintro e w' ⟨rfl, rfl⟩))
    go_ret
    exact ⟨retB H.out.symm, rfl⟩
  · have hn : 1 ≤ n ∧ n ≤ 13 := by
      simp only [Bool.and_eq_true, decide_eq_true_eq] at h1
      omega
    obtain ⟨ad, rfl, _, hc⟩ := h.at_ (show n - 1 < n by omega)
    cases h2 : p.all isNum <;> cases h3 : (p.getD (n - 1) 0 != 1000000000)
    all_goals
      have H := Lib.hid (isPol_cases h.len h1 h2 h3)
      have H1 := Lib.hid h1
      have H2 := Lib.hid h2
      clear h1 h2
      generalize p.getD (n - 1) 0 = z at *
      go_enter Try.func81, Try.ntmps81
      go_wp2_with (first
        | (go_at_call 67; refine (within_c _ _ _ _).mono ?_; rw [H1.out]; rintro e w' ⟨rfl, rfl⟩)
        | (go_at_call 87; refine (areNumbers_c _ _ _ _ _ _ h).mono ?_; rw [H2.out]; rintro e w' ⟨rfl, rfl⟩))
      go_ret
      exact ⟨retB H.out.symm, rfl⟩
theorem toldPoly_c (A : Option Addr) (n c : Nat) (p : List Int) (B : Nat) (w : World) (x : Bool) (hx : isPol p = x) (h : Rd w B A n p) :
    Calls Try.prog 68 #[.slice A n c] w fun e w' => e = .returned (.tuple #[if x then .slice A n c else .slice none 0 0, .bool x]) ∧ w = w' := by
  have H := Lib.hid hx
  clear hx
  cases x
  all_goals
    go_enter Try.func68, Try.ntmps68
    go_wp2_with (go_at_call 81; refine (isPoly_c _ _ _ _ _ _ h).mono ?_; rw [H.out]; rintro e w' ⟨rfl, rfl⟩)
    go_ret2
    exact ⟨rfl, rfl⟩
theorem poFinite_c (n : Int) (w : World) : Calls Try.prog 62 #[.int .i64 n] w fun e w' => e = .returned (.bool (isFin n)) ∧ w = w' := by
  have H : Hid (isFin n = (decide (-1000000 ≤ n) && decide (n ≤ 1000000))) := Lib.hid rfl
  go_enter Try.func62, Try.ntmps62
  go_wp2_with (go_at_call 66; refine (l1In_c _ _ _ _).mono ?_; rw [← H.out]; rintro e w' ⟨rfl, rfl⟩)
  go_ret
  exact ⟨rfl, rfl⟩
end Go.Proofs.Ytfamemjlhgkneaa
