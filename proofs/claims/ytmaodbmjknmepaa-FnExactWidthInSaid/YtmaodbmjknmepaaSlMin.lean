/- The least element by Go's slices.Min, of numbers that are at most 'infinity'. -/
import Derived.Test.YtmaodbmjknmepaaList
namespace Go.Proofs.Ytmaodbmjknmepaa
open Go.RowKit
theorem slicesMin_c (A : Option Addr) (n c : Nat) (zs : List Int) (B : Nat) (w : World) (h : Rd w B A n zs) (hn : 0 < n) (hle : zs.getD 0 0 ≤ 1000000000) :
    Calls Try.prog 33 #[.slice A n c] w fun e w' => e = .returned (.int .i64 (least zs)) ∧ w = w' := by
  have hm := h.le
  have HL := Lib.hid h.len
  have H1 : Hid (leastTo zs 1 = zs.getD 0 0) := Lib.hid (by rw [leastTo, leastTo]; omega)
  obtain ⟨ad, rfl, _, hc0⟩ := h.at_ hn
  rw [ad_add0] at hc0
  generalize zs.getD 0 0 = z0 at *
  have hn1 : ¬ (n : Int) < 1 := by omega
  have hn2 : 1 ≤ n := by omega
  have hn3 : (0 : Int) < (n : Int) := by omega
  go_enter Try.func33, Try.ntmps33
  go_wp2
  go_loop [3, 4] (fun o i => ∃ k : Nat, 1 ≤ k ∧ k ≤ n ∧ i = .int .i64 k ∧ o = .int .i64 (leastTo zs k)) (fun _ i => n - (intOf i).toNat)
  case atStart => exact ⟨1, by omega, by omega, rfl, by rw [H1.out]⟩
  case round =>
    obtain ⟨k, hk1, hk, rfl, rfl⟩ := hrel
    by_cases hlt : k < n
    · obtain ⟨ad', q, _, hc⟩ := h.at_ hlt
      cases q
      have H : Hid (leastTo zs (k + 1) = min (leastTo zs k) (zs.getD k 0)) := Lib.hid rfl
      generalize zs.getD k 0 = z at *
      generalize leastTo zs k = m at *
      go_wp2
      all_goals
        go_round
        case rel => exact ⟨k + 1, by omega, by omega, by go_num, by rw [H.out]; first | done | go_num⟩
        case measure => simp [intOf]; omega
    · have H : Hid (least zs = leastTo zs k) := Lib.hid (by rw [least, HL.out, show n = k from by omega])
      go_wp2
      go_ret
      exact ⟨retI H.out.symm, rfl⟩
end Go.Proofs.Ytmaodbmjknmepaa
