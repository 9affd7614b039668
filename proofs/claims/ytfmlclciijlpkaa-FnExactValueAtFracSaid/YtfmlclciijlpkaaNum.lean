/- The walks of the functions on numbers (both packages): each computes its plain function. -/
import Derived.Test.YtfmlclciijlpkaaRows
import Derived.Test.YtfmlclciijlpkaaPure
namespace Go.Proofs.Ytfmlclciijlpkaa
open Go.RowKit

theorem l1In_c (n a b : Int) (w : World) : Calls Try.prog 39 #[.int .i64 n, .int .i64 a, .int .i64 b] w fun e w' => e = .returned (.bool (decide (a ≤ n) && decide (n ≤ b))) ∧ w = w' := by
  by_cases h : a ≤ n <;> by_cases h2 : n ≤ b
  all_goals
    go_enter Try.func39, Try.ntmps39
    go_wp2
    go_ret
    exact ⟨by simp [h, h2], rfl⟩
theorem within_c (n a b : Int) (w : World) : Calls Try.prog 42 #[.int .i64 n, .int .i64 a, .int .i64 b] w fun e w' => e = .returned (.bool (decide (a ≤ n) && decide (n ≤ b))) ∧ w = w' := by
  by_cases h : a ≤ n <;> by_cases h2 : n ≤ b
  all_goals
    go_enter Try.func42, Try.ntmps42
    go_wp2
    go_ret
    exact ⟨by simp [h, h2], rfl⟩
theorem isFinite_c (n : Int) (w : World) : Calls Try.prog 20 #[.int .i64 n] w fun e w' => e = .returned (.bool (isFin n)) ∧ w = w' := by
  by_cases h : -1000000 ≤ n <;> by_cases h2 : n ≤ 1000000
  all_goals
    go_enter Try.func20, Try.ntmps20
    go_wp2
    go_ret
    exact ⟨by simp [isFin, h, h2], rfl⟩
theorem isNumber_c (n : Int) (w : World) : Calls Try.prog 54 #[.int .i64 n] w fun e w' => e = .returned (.bool (isNum n)) ∧ w = w' := by
  by_cases h : -1000000 ≤ n <;> by_cases h2 : n ≤ 1000000 <;> by_cases h3 : n = 1000000000
  all_goals try omega
  all_goals
    go_enter Try.func54, Try.ntmps54
    go_wp2
    go_ret
    exact ⟨by simp [isNum, isFin, h, h2, h3], rfl⟩
theorem nuGood_c (n : Int) (w : World) : Calls Try.prog 41 #[.int .i64 n] w fun e w' => e = .returned (.bool (isNum n)) ∧ w = w' := by
  by_cases h : -1000000 ≤ n <;> by_cases h2 : n ≤ 1000000 <;> by_cases h3 : n = 1000000000
  all_goals try omega
  all_goals
    go_enter Try.func41, Try.ntmps41
    go_wp2
    go_ret
    exact ⟨by simp [isNum, isFin, h, h2, h3], rfl⟩
theorem product_c (a b : Int) (w : World) (ha : -3000000000000000000 ≤ a) (ha' : a ≤ 3000000000000000000) (hb : -3000000000000000000 ≤ b) (hb' : b ≤ 3000000000000000000) :
    Calls Try.prog 40 #[.int .i64 a, .int .i64 b] w fun e w' => e = .returned (.int .i64 (prod a b)) ∧ w = w' := by
  cases h : (a == 1000000000) <;> cases h2 : (b == 1000000000)
  all_goals
    go_enter Try.func40, Try.ntmps40
    go_wp2
    go_ret
    exact ⟨retI (prod_cases h h2), rfl⟩
theorem l1Most_c (a b : Int) (w : World) : Calls Try.prog 57 #[.int .i64 a, .int .i64 b] w fun e w' => e = .returned (.int .i64 (max a b)) ∧ w = w' := by
  by_cases h : b < a
  all_goals
    go_enter Try.func57, Try.ntmps57
    go_wp2
    go_ret
    exact ⟨retI (by show _ = max a b; omega), rfl⟩
/- Running through a list -/
theorem areNumbers_c (A : Option Addr) (n c : Nat) (zs : List Int) (B : Nat) (w : World) (h : Rd w B A n zs) :
    Calls Try.prog 43 #[.slice A n c] w fun e w' => e = .returned (.bool (zs.all isNum)) ∧ w = w' := by
  have hm := h.le
  have HL := Lib.hid h.len
  go_enter Try.func43, Try.ntmps43
  go_wp2
  go_loop [7] (fun i => ∃ k : Nat, k ≤ n ∧ i = .int .i64 k ∧ Hid ((zs.take k).all isNum = true)) (fun i => n - (intOf i).toNat)
  case atStart => exact ⟨0, Nat.zero_le _, rfl, hid_take0 _ _⟩
  case round =>
    obtain ⟨k, hk, rfl, hall⟩ := hrel
    by_cases hlt : k < n
    · obtain ⟨ad, rfl, _, hc⟩ := h.at_ hlt
      have hkz : k < zs.length := by rw [HL.out]; exact hlt
      cases hp : isNum (zs.getD k 0)
      · have H := all_stop hkz hp
        have HP := Lib.hid hp
        clear hp hkz
        generalize zs.getD k 0 = z at *
        go_wp2_with (go_at_call 54; refine (isNumber_c _ _).mono ?_; rw [HP.out]; rintro e w' ⟨rfl, rfl⟩)
        go_ret
        exact ⟨retB H.out.symm, rfl⟩
      · have H := all_next hall hkz hp
        have HP := Lib.hid hp
        clear hp hkz
        generalize zs.getD k 0 = z at *
        go_wp2_with (go_at_call 54; refine (isNumber_c _ _).mono ?_; rw [HP.out]; rintro e w' ⟨rfl, rfl⟩)
        go_round
        case rel => exact ⟨k + 1, by omega, by go_num, H⟩
        case measure => simp [intOf]; omega
    · have H := Lib.hid (all_done hall (by rw [HL.out]; omega))
      go_wp2
      go_ret
      exact ⟨retB H.out.symm, rfl⟩
end Go.Proofs.Ytfmlclciijlpkaa
