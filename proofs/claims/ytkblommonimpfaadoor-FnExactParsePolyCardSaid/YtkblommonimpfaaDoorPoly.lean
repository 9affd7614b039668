/- The walks of the functions on polynomials in one unknown (both packages), each against its plain function. -/
import Derived.Test.YtkblommonimpfaaDoorList
import Derived.Test.YtkblommonimpfaaDoorPurePoly
import Derived.Deep.RegionWith
namespace Go.Proofs.YtkblommonimpfaaDoor
open Go.RowKit
theorem isPol_cases {p : List Int} {n : Nat} {x y z : Bool} (hl : p.length = n) (h1 : (decide (1 ≤ (n : Int)) && decide ((n : Int) ≤ 13)) = x) (h2 : p.all isNum = y) (h3 : (p.getD (n - 1) 0 != 1000000000) = z) : isPol p = (x && y && z) := by
  rw [isPol, hl, h2, ← h1, ← h3]
  congr 2
  rw [Bool.eq_iff_iff]
  simp only [decide_eq_true_eq, Bool.and_eq_true]
  omega
theorem isPol_no1 {p : List Int} {n : Nat} (hl : p.length = n) (h1 : (decide (1 ≤ (n : Int)) && decide ((n : Int) ≤ 13)) = false) : isPol p = false := by
  rw [isPol_cases hl h1 rfl rfl]; rfl
theorem isPoly_c (A : Option Addr) (n c : Nat) (p : List Int) (B : Nat) (w : World) (h : Rd w B A n p) :
    Calls Tryd.prog 20 #[.slice A n c] w fun e w' => e = .returned (.bool (isPol p)) ∧ w = w' := by
  have hm := h.le
  cases h1 : (decide (1 ≤ (n : Int)) && decide ((n : Int) ≤ 13))
  · have H := Lib.hid (isPol_no1 h.len h1)
    have H1 := Lib.hid h1
    clear h1
    go_enter Tryd.func20, Tryd.ntmps20
    go_wp2_with (first
      | (go_at_call 26; refine (within_c _ _ _ _).mono ?_; rw [H1.out]; rintro e w' ⟨rfl, rfl⟩))
    go_ret
    exact ⟨retB H.out.symm, rfl⟩
  · have hn : 1 ≤ n ∧ n ≤ 13 := by
      simp only [Bool.and_eq_true, decide_eq_true_eq] at h1
      omega
    obtain ⟨ad, rfl, _, hc⟩ := h.at_ (show n - 1 < n by omega)
    cases h2 : p.all isNum <;> cases h3 : (p.getD (n - 1) 0 != 1000000000)
    all_goals
      have H := Lib.hid (isPol_cases h.len h1 h2 h3)
      have H1 := Lib.hid h1
      have H2 := Lib.hid h2
      clear h1 h2
      generalize p.getD (n - 1) 0 = z at *
      go_enter Tryd.func20, Tryd.ntmps20
      go_wp2_with (first
        | (go_at_call 26; refine (within_c _ _ _ _).mono ?_; rw [H1.out]; rintro e w' ⟨rfl, rfl⟩)
        | (go_at_call 27; refine (areNumbers_c _ _ _ _ _ _ h).mono ?_; rw [H2.out]; rintro e w' ⟨rfl, rfl⟩))
      go_ret
      exact ⟨retB H.out.symm, rfl⟩
theorem poGood_c (A : Option Addr) (n c : Nat) (p : List Int) (B : Nat) (w : World) (h : Rd w B A n p) :
    Calls Tryd.prog 11 #[.slice A n c] w fun e w' => e = .returned (.bool (isPol p)) ∧ w = w' := by
  have hm := h.le
  have HL := Lib.hid h.len
  go_enter Tryd.func11, Tryd.ntmps11
  go_wp2
  go_loop [7] (fun i => ∃ k : Nat, k ≤ n ∧ i = .int .i64 k ∧ Hid ((p.take k).all isNum = true)) (fun i => n - (intOf i).toNat)
  case atStart => exact ⟨0, Nat.zero_le _, rfl, hid_take0 _ _⟩
  case round =>
    obtain ⟨k, hk, rfl, hall⟩ := hrel
    by_cases hlt : k < n
    · obtain ⟨ad, rfl, _, hc⟩ := h.at_ hlt
      have hkz : k < p.length := by rw [HL.out]; exact hlt
      cases hp : isNum (p.getD k 0)
      · have H : Hid (isPol p = false) := Lib.hid (by rw [isPol, (all_stop hkz hp).out, Bool.and_false, Bool.false_and])
        have HP := Lib.hid hp
        clear hp hkz
        generalize p.getD k 0 = z at *
        go_wp2_with (go_at_call 15; refine (nuGood_c _ _).mono ?_; rw [HP.out]; rintro e w' ⟨rfl, rfl⟩)
        go_ret
        exact ⟨retB H.out.symm, rfl⟩
      · have H := all_next hall hkz hp
        have HP := Lib.hid hp
        clear hp hkz
        generalize p.getD k 0 = z at *
        go_wp2_with (go_at_call 15; refine (nuGood_c _ _).mono ?_; rw [HP.out]; rintro e w' ⟨rfl, rfl⟩)
        go_round
        case rel => exact ⟨k + 1, by omega, by go_num, H⟩
        case measure => simp [intOf]; omega
    · have h2 := all_done hall (by rw [HL.out]; omega)
      cases h1 : (decide (1 ≤ (n : Int)) && decide ((n : Int) ≤ 13))
      · have H := Lib.hid (isPol_no1 HL.out h1)
        have H1 := Lib.hid h1
        clear h1 h2
        go_wp2_with (go_at_call 17; refine (l1In_c _ _ _ _).mono ?_; rw [H1.out]; rintro e w' ⟨rfl, rfl⟩)
        go_ret
        exact ⟨retB H.out.symm, rfl⟩
      · have hn : 1 ≤ n ∧ n ≤ 13 := by
          simp only [Bool.and_eq_true, decide_eq_true_eq] at h1
          omega
        obtain ⟨ad, rfl, _, hc⟩ := h.at_ (show n - 1 < n by omega)
        cases h3 : (p.getD (n - 1) 0 != 1000000000)
        all_goals
          have H := Lib.hid (isPol_cases HL.out h1 h2 h3)
          have H1 := Lib.hid h1
          clear h1 h2
          generalize p.getD (n - 1) 0 = z at *
          go_wp2_with (go_at_call 17; refine (l1In_c _ _ _ _).mono ?_; rw [H1.out]; rintro e w' ⟨rfl, rfl⟩)
          go_ret
          exact ⟨retB H.out.symm, rfl⟩
theorem toldPoly_c (A : Option Addr) (n c : Nat) (p : List Int) (B : Nat) (w : World) (x : Bool) (hx : isPol p = x) (h : Rd w B A n p) :
    Calls Tryd.prog 13 #[.slice A n c] w fun e w' => e = .returned (.tuple #[if x then .slice A n c else .slice none 0 0, .bool x]) ∧ w = w' := by
  have H := Lib.hid hx
  clear hx
  cases x
  all_goals
    go_enter Tryd.func13, Tryd.ntmps13
    go_wp2_with (go_at_call 20; refine (isPoly_c _ _ _ _ _ _ h).mono ?_; rw [H.out]; rintro e w' ⟨rfl, rfl⟩)
    go_ret2
    exact ⟨rfl, rfl⟩
end Go.Proofs.YtkblommonimpfaaDoor
