/- Whether all numbers of a list are finite, in both packages. -/
import Derived.Test.YtfamemjlhgkneaaNum
namespace Go.Proofs.Ytfamemjlhgkneaa
open Go.RowKit
theorem areFinite_c (A : Option Addr) (n c : Nat) (zs : List Int) (B : Nat) (w : World) (h : Rd w B A n zs) :
    Calls Try.prog 55 #[.slice A n c] w fun e w' => e = .returned (.bool (zs.all isFin)) ∧ w = w' := by
  have hm := h.le
  have HL := Lib.hid h.len
  go_enter Try.func55, Try.ntmps55
  go_wp2
  go_loop [7] (fun i => ∃ k : Nat, k ≤ n ∧ i = .int .i64 k ∧ Hid ((zs.take k).all isFin = true)) (fun i => n - (intOf i).toNat)
  case atStart => exact ⟨0, Nat.zero_le _, rfl, hid_take0 _ _⟩
  case round =>
    obtain ⟨k, hk, rfl, hall⟩ := hrel
    by_cases hlt : k < n
    · obtain ⟨ad, rfl, _, hc⟩ := h.at_ hlt
      have hkz : k < zs.length := by rw [HL.out]; exact hlt
      cases hp : isFin (zs.getD k 0)
      · have H := all_stop hkz hp
        have HP := Lib.hid hp
        clear hp hkz
        generalize zs.getD k 0 = z at *
        go_wp2_with (go_at_call 77; refine (isFinite_c _ _).mono ?_; rw [HP.out]; rintro e w' ⟨rfl, rfl⟩)
        go_ret
        exact ⟨retB H.out.symm, rfl⟩
      · have H := all_next hall hkz hp
        have HP := Lib.hid hp
        clear hp hkz
        generalize zs.getD k 0 = z at *
        go_wp2_with (go_at_call 77; refine (isFinite_c _ _).mono ?_; rw [HP.out]; rintro e w' ⟨rfl, rfl⟩)
        go_round
        case rel => exact ⟨k + 1, by omega, by go_num, H⟩
        case measure => simp [intOf]; omega
    · have H := Lib.hid (all_done hall (by rw [HL.out]; omega))
      go_wp2
      go_ret
      exact ⟨retB H.out.symm, rfl⟩
end Go.Proofs.Ytfamemjlhgkneaa
