/- The walks of the functions on numbers (both packages): each computes its plain function. -/
import Derived.Test.YtkblommonimpfaaDoorRows
import Derived.Test.YtkblommonimpfaaDoorPure
namespace Go.Proofs.YtkblommonimpfaaDoor
open Go.RowKit

theorem l1In_c (n a b : Int) (w : World) : Calls Tryd.prog 17 #[.int .i64 n, .int .i64 a, .int .i64 b] w fun e w' => e = .returned (.bool (decide (a ≤ n) && decide (n ≤ b))) ∧ w = w' := by
  by_cases h : a ≤ n <;> by_cases h2 : n ≤ b
  all_goals
    go_enter Tryd.func17, Tryd.ntmps17
    go_wp2
    go_ret
    exact ⟨by simp [h, h2], rfl⟩
theorem within_c (n a b : Int) (w : World) : Calls Tryd.prog 26 #[.int .i64 n, .int .i64 a, .int .i64 b] w fun e w' => e = .returned (.bool (decide (a ≤ n) && decide (n ≤ b))) ∧ w = w' := by
  by_cases h : a ≤ n <;> by_cases h2 : n ≤ b
  all_goals
    go_enter Tryd.func26, Tryd.ntmps26
    go_wp2
    go_ret
    exact ⟨by simp [h, h2], rfl⟩
theorem isFinite_c (n : Int) (w : World) : Calls Tryd.prog 24 #[.int .i64 n] w fun e w' => e = .returned (.bool (isFin n)) ∧ w = w' := by
  by_cases h : -1000000 ≤ n <;> by_cases h2 : n ≤ 1000000
  all_goals
    go_enter Tryd.func24, Tryd.ntmps24
    go_wp2
    go_ret
    exact ⟨by simp [isFin, h, h2], rfl⟩
theorem isNumber_c (n : Int) (w : World) : Calls Tryd.prog 35 #[.int .i64 n] w fun e w' => e = .returned (.bool (isNum n)) ∧ w = w' := by
  by_cases h : -1000000 ≤ n <;> by_cases h2 : n ≤ 1000000 <;> by_cases h3 : n = 1000000000
  all_goals try omega
  all_goals
    go_enter Tryd.func35, Tryd.ntmps35
    go_wp2
    go_ret
    exact ⟨by simp [isNum, isFin, h, h2, h3], rfl⟩
theorem nuGood_c (n : Int) (w : World) : Calls Tryd.prog 15 #[.int .i64 n] w fun e w' => e = .returned (.bool (isNum n)) ∧ w = w' := by
  by_cases h : -1000000 ≤ n <;> by_cases h2 : n ≤ 1000000 <;> by_cases h3 : n = 1000000000
  all_goals try omega
  all_goals
    go_enter Tryd.func15, Tryd.ntmps15
    go_wp2
    go_ret
    exact ⟨by simp [isNum, isFin, h, h2, h3], rfl⟩
/- Running through a list -/
theorem areNumbers_c (A : Option Addr) (n c : Nat) (zs : List Int) (B : Nat) (w : World) (h : Rd w B A n zs) :
    Calls Tryd.prog 27 #[.slice A n c] w fun e w' => e = .returned (.bool (zs.all isNum)) ∧ w = w' := by
  have hm := h.le
  have HL := Lib.hid h.len
  go_enter Tryd.func27, Tryd.ntmps27
  go_wp2
  go_loop [7] (fun i => ∃ k : Nat, k ≤ n ∧ i = .int .i64 k ∧ Hid ((zs.take k).all isNum = true)) (fun i => n - (intOf i).toNat)
  case atStart => exact ⟨0, Nat.zero_le _, rfl, hid_take0 _ _⟩
  case round =>
    obtain ⟨k, hk, rfl, hall⟩ := hrel
    by_cases hlt : k < n
    · obtain ⟨ad, rfl, _, hc⟩ := h.at_ hlt
      have hkz : k < zs.length := by rw [HL.out]; exact hlt
      cases hp : isNum (zs.getD k 0)
      · have H := all_stop hkz hp
        have HP := Lib.hid hp
        clear hp hkz
        generalize zs.getD k 0 = z at *
        go_wp2_with (go_at_call 35; refine (isNumber_c _ _).mono ?_; rw [HP.out]; rintro e w' ⟨rfl, rfl⟩)
        go_ret
        exact ⟨retB H.out.symm, rfl⟩
      · have H := all_next hall hkz hp
        have HP := Lib.hid hp
        clear hp hkz
        generalize zs.getD k 0 = z at *
        go_wp2_with (go_at_call 35; refine (isNumber_c _ _).mono ?_; rw [HP.out]; rintro e w' ⟨rfl, rfl⟩)
        go_round
        case rel => exact ⟨k + 1, by omega, by go_num, H⟩
        case measure => simp [intOf]; omega
    · have H := Lib.hid (all_done hall (by rw [HL.out]; omega))
      go_wp2
      go_ret
      exact ⟨retB H.out.symm, rfl⟩
end Go.Proofs.YtkblommonimpfaaDoor
