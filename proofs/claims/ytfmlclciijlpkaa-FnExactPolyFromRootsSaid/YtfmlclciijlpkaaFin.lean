/- Whether all numbers of a list are finite, in both packages. -/
import Derived.Test.YtfmlclciijlpkaaNum
namespace Go.Proofs.Ytfmlclciijlpkaa
open Go.RowKit
theorem areFinite_c (A : Option Addr) (n c : Nat) (zs : List Int) (B : Nat) (w : World) (h : Rd w B A n zs) :
    Calls Try.prog 21 #[.slice A n c] w fun e w' => e = .returned (.bool (zs.all isFin)) ∧ w = w' := by
  have hm := h.le
  have HL := Lib.hid h.len
  go_enter Try.func21, Try.ntmps21
  go_wp2
  go_loop [7] (fun i => ∃ k : Nat, k ≤ n ∧ i = .int .i64 k ∧ Hid ((zs.take k).all isFin = true)) (fun i => n - (intOf i).toNat)
  case atStart => exact ⟨0, Nat.zero_le _, rfl, hid_take0 _ _⟩
  case round =>
    obtain ⟨k, hk, rfl, hall⟩ := hrel
    by_cases hlt : k < n
    · obtain ⟨ad, rfl, _, hc⟩ := h.at_ hlt
      have hkz : k < zs.length := by rw [HL.out]; exact hlt
      cases hp : isFin (zs.getD k 0)
      · have H := all_stop hkz hp
        have HP := Lib.hid hp
        clear hp hkz
        generalize zs.getD k 0 = z at *
        go_wp2_with (go_at_call 20; refine (isFinite_c _ _).mono ?_; rw [HP.out]; rintro e w' ⟨rfl, rfl⟩)
        go_ret
        exact ⟨retB H.out.symm, rfl⟩
      · have H := all_next hall hkz hp
        have HP := Lib.hid hp
        clear hp hkz
        generalize zs.getD k 0 = z at *
        go_wp2_with (go_at_call 20; refine (isFinite_c _ _).mono ?_; rw [HP.out]; rintro e w' ⟨rfl, rfl⟩)
        go_round
        case rel => exact ⟨k + 1, by omega, by go_num, H⟩
        case measure => simp [intOf]; omega
    · have H := Lib.hid (all_done hall (by rw [HL.out]; omega))
      go_wp2
      go_ret
      exact ⟨retB H.out.symm, rfl⟩
theorem l1InFin_c (n : Int) (w : World) : Calls Try.prog 39 #[.int .i64 n, .int .i64 (-1000000), .int .i64 1000000] w fun e w' => e = .returned (.bool (isFin n)) ∧ w = w' := l1In_c n _ _ w
theorem l1AllFin_c (A : Option Addr) (n c : Nat) (zs : List Int) (B : Nat) (w : World) (h : Rd w B A n zs) :
    Calls Try.prog 19 #[.slice A n c, .int .i64 (-1000000), .int .i64 1000000] w fun e w' => e = .returned (.bool (zs.all isFin)) ∧ w = w' := by
  have hm := h.le
  have HL := Lib.hid h.len
  go_enter Try.func19, Try.ntmps19
  go_wp2
  go_loop [11] (fun i => ∃ k : Nat, k ≤ n ∧ i = .int .i64 k ∧ Hid ((zs.take k).all isFin = true)) (fun i => n - (intOf i).toNat)
  case atStart => exact ⟨0, Nat.zero_le _, rfl, hid_take0 _ _⟩
  case round =>
    obtain ⟨k, hk, rfl, hall⟩ := hrel
    by_cases hlt : k < n
    · obtain ⟨ad, rfl, _, hc⟩ := h.at_ hlt
      have hkz : k < zs.length := by rw [HL.out]; exact hlt
      cases hp : isFin (zs.getD k 0)
      · have H := all_stop hkz hp
        have HP := Lib.hid hp
        clear hp hkz
        generalize zs.getD k 0 = z at *
        go_wp2_with (go_at_call 39; refine (l1InFin_c _ _).mono ?_; rw [HP.out]; rintro e w' ⟨rfl, rfl⟩)
        go_ret
        exact ⟨retB H.out.symm, rfl⟩
      · have H := all_next hall hkz hp
        have HP := Lib.hid hp
        clear hp hkz
        generalize zs.getD k 0 = z at *
        go_wp2_with (go_at_call 39; refine (l1InFin_c _ _).mono ?_; rw [HP.out]; rintro e w' ⟨rfl, rfl⟩)
        go_round
        case rel => exact ⟨k + 1, by omega, by go_num, H⟩
        case measure => simp [intOf]; omega
    · have H := Lib.hid (all_done hall (by rw [HL.out]; omega))
      go_wp2
      go_ret
      exact ⟨retB H.out.symm, rfl⟩
end Go.Proofs.Ytfmlclciijlpkaa
