/- The walks of the functions on polynomials in one unknown (both packages), each against its plain function. -/
import Derived.Test.YthhgakojkcmoiaaList
import Derived.Test.YthhgakojkcmoiaaPurePoly
import Derived.Deep.RegionWith
namespace Go.Proofs.Ythhgakojkcmoiaa
open Go.RowKit
theorem isPol_cases {p : List Int} {n : Nat} {x y z : Bool} (hl : p.length = n) (h1 : (decide (1 ≤ (n : Int)) && decide ((n : Int) ≤ 13)) = x) (h2 : p.all isNum = y) (h3 : (p.getD (n - 1) 0 != 1000000000) = z) : isPol p = (x && y && z) := by
  rw [isPol, hl, h2, ← h1, ← h3]
  congr 2
  rw [Bool.eq_iff_iff]
  simp only [decide_eq_true_eq, Bool.and_eq_true]
  omega
theorem isPol_no1 {p : List Int} {n : Nat} (hl : p.length = n) (h1 : (decide (1 ≤ (n : Int)) && decide ((n : Int) ≤ 13)) = false) : isPol p = false := by
  rw [isPol_cases hl h1 rfl rfl]; rfl
theorem isPoly_c (A : Option Addr) (n c : Nat) (p : List Int) (B : Nat) (w : World) (h : Rd w B A n p) :
    Calls Try.prog 46 #[.slice A n c] w fun e w' => e = .returned (.bool (isPol p)) ∧ w = w' := by
  have hm := h.le
  cases h1 : (decide (1 ≤ (n : Int)) && decide ((n : Int) ≤ 13))
  · have H := Lib.hid (isPol_no1 h.len h1)
    have H1 := Lib.hid h1
    clear h1
    go_enter Try.func46, Try.ntmps46
    go_wp2_with (first
      | (go_at_call 69; refine (within_c _ _ _ _).mono ?_; rw [H1.out]; rintro e w' ⟨rfl, rfl⟩))
    go_ret
    exact ⟨retB H.out.symm, rfl⟩
  · have hn : 1 ≤ n ∧ n ≤ 13 := by
      simp only [Bool.and_eq_true, decide_eq_true_eq] at h1
      omega
    obtain ⟨ad, rfl, _, hc⟩ := h.at_ (show n - 1 < n by omega)
    cases h2 : p.all isNum <;> cases h3 : (p.getD (n - 1) 0 != 1000000000)
    all_goals
      have H := Lib.hid (isPol_cases h.len h1 h2 h3)
      have H1 := Lib.hid h1
      have H2 := Lib.hid h2
      clear h1 h2
      generalize p.getD (n - 1) 0 = z at *
      go_enter Try.func46, Try.ntmps46
      go_wp2_with (first
        | (go_at_call 69; refine (within_c _ _ _ _).mono ?_; rw [H1.out]; rintro e w' ⟨rfl, rfl⟩)
        | (go_at_call 83; refine (areNumbers_c _ _ _ _ _ _ h).mono ?_; rw [H2.out]; rintro e w' ⟨rfl, rfl⟩))
      go_ret
      exact ⟨retB H.out.symm, rfl⟩
theorem poGood_c (A : Option Addr) (n c : Nat) (p : List Int) (B : Nat) (w : World) (h : Rd w B A n p) :
    Calls Try.prog 45 #[.slice A n c] w fun e w' => e = .returned (.bool (isPol p)) ∧ w = w' := by
  have hm := h.le
  have HL := Lib.hid h.len
  go_enter Try.func45, Try.ntmps45
  go_wp2
  go_loop [7] (fun i => ∃ k : Nat, k ≤ n ∧ i = .int .i64 k ∧ Hid ((p.take k).all isNum = true)) (fun i => n - (intOf i).toNat)
  case atStart => exact ⟨0, Nat.zero_le _, rfl, hid_take0 _ _⟩
  case round =>
    obtain ⟨k, hk, rfl, hall⟩ := hrel
    by_cases hlt : k < n
    · obtain ⟨ad, rfl, _, hc⟩ := h.at_ hlt
      have hkz : k < p.length := by rw [HL.out]; exact hlt
      cases hp : isNum (p.getD k 0)
      · have H : Hid (isPol p = false) := Lib.hid (by rw [isPol, (all_stop hkz hp).out, Bool.and_false, Bool.false_and])
        have HP := Lib.hid hp
        clear hp hkz
        generalize p.getD k 0 = z at *
        go_wp2_with (go_at_call 53; refine (nuGood_c _ _).mono ?_; rw [HP.out]; rintro e w' ⟨rfl, rfl⟩)
        go_ret
        exact ⟨retB H.out.symm, rfl⟩
      · have H := all_next hall hkz hp
        have HP := Lib.hid hp
        clear hp hkz
        generalize p.getD k 0 = z at *
        go_wp2_with (go_at_call 53; refine (nuGood_c _ _).mono ?_; rw [HP.out]; rintro e w' ⟨rfl, rfl⟩)
        go_round
        case rel => exact ⟨k + 1, by omega, by go_num, H⟩
        case measure => simp [intOf]; omega
    · have h2 := all_done hall (by rw [HL.out]; omega)
      cases h1 : (decide (1 ≤ (n : Int)) && decide ((n : Int) ≤ 13))
      · have H := Lib.hid (isPol_no1 HL.out h1)
        have H1 := Lib.hid h1
        clear h1 h2
        go_wp2_with (go_at_call 68; refine (l1In_c _ _ _ _).mono ?_; rw [H1.out]; rintro e w' ⟨rfl, rfl⟩)
        go_ret
        exact ⟨retB H.out.symm, rfl⟩
      · have hn : 1 ≤ n ∧ n ≤ 13 := by
          simp only [Bool.and_eq_true, decide_eq_true_eq] at h1
          omega
        obtain ⟨ad, rfl, _, hc⟩ := h.at_ (show n - 1 < n by omega)
        cases h3 : (p.getD (n - 1) 0 != 1000000000)
        all_goals
          have H := Lib.hid (isPol_cases HL.out h1 h2 h3)
          have H1 := Lib.hid h1
          clear h1 h2
          generalize p.getD (n - 1) 0 = z at *
          go_wp2_with (go_at_call 68; refine (l1In_c _ _ _ _).mono ?_; rw [H1.out]; rintro e w' ⟨rfl, rfl⟩)
          go_ret
          exact ⟨retB H.out.symm, rfl⟩
theorem toldPoly_c (A : Option Addr) (n c : Nat) (p : List Int) (B : Nat) (w : World) (x : Bool) (hx : isPol p = x) (h : Rd w B A n p) :
    Calls Try.prog 55 #[.slice A n c] w fun e w' => e = .returned (.tuple #[if x then .slice A n c else .slice none 0 0, .bool x]) ∧ w = w' := by
  have H := Lib.hid hx
  clear hx
  cases x
  all_goals
    go_enter Try.func55, Try.ntmps55
    go_wp2_with (go_at_call 46; refine (isPoly_c _ _ _ _ _ _ h).mono ?_; rw [H.out]; rintro e w' ⟨rfl, rfl⟩)
    go_ret2
    exact ⟨rfl, rfl⟩
theorem poFinite_c (n : Int) (w : World) : Calls Try.prog 51 #[.int .i64 n] w fun e w' => e = .returned (.bool (isFin n)) ∧ w = w' := by
  have H : Hid (isFin n = (decide (-1000000 ≤ n) && decide (n ≤ 1000000))) := Lib.hid rfl
  go_enter Try.func51, Try.ntmps51
  go_wp2_with (go_at_call 68; refine (l1In_c _ _ _ _).mono ?_; rw [← H.out]; rintro e w' ⟨rfl, rfl⟩)
  go_ret
  exact ⟨rfl, rfl⟩
theorem values_c (A : Option Addr) (n c : Nat) (p : List Int) (x : Int) (B : Nat) (w : World) (h : Rd w B A n p) (hB : B ≤ w.heap.size) (hp : isPol p = true) (hx : isFin x = true) :
    Calls Try.prog 56 #[.slice A n c, .int .i64 x] w (RetOwn 3 (vals p x) w) := by
  have hm := h.le
  have HL := Lib.hid h.len
  have hn : n ≤ 13 := by have := isPol_len hp; have := h.len; omega
  have hxb := (isFin_iff x).1 hx
  have HA := Lib.hid (isPol_all hp)
  clear hp hx
  obtain ⟨i0, hi, hz0, hz1, hz2⟩ := info_parts info_int
  have HI := Lib.hid hi
  have HZ0 := Lib.hid hz0
  have HZ1 := Lib.hid hz1
  have HZ2 := Lib.hid hz2
  clear hi hz0 hz1 hz2
  go_enter Try.func56, Try.ntmps56
  go_wp2
  go_loopw [5, 11] (fun v i wr => ∃ k : Nat, k ≤ n ∧ i = .int .i64 k ∧ Own wr w.heap.size 3 v k (valsTo p x k) ∧ Below w.heap.size w wr) (fun _ i _ => n - (intOf i).toNat)
  case atStart => exact ⟨0, Nat.zero_le _, rfl, Own.empty _ _ (Nat.le_refl _), bel_new _ _⟩
  case round =>
    obtain ⟨k, hk, rfl, hown, hbel⟩ := hrel
    have hsz := hbel.size
    by_cases hlt : k < n
    · obtain ⟨ad, rfl, _, hc⟩ := (h.below (hbel.mono hB)).at_ hlt
      have b1 := isNum_bd (List.all_eq_true.1 HA.out _ (getD_mem (show k < p.length by rw [HL.out]; exact hlt)))
      have b2 := term_bd (i := k) hxb (by omega)
      have HP : Hid (valsTo p x (k + 1) = valsTo p x k ++ [prod (p.getD k 0) ((k : Int) * x)]) := Lib.hid rfl
      generalize p.getD k 0 = z at *
      go_wp2_with (first
        | (go_at_call 84; refine (product_c _ _ _ (by omega) (by omega) (by omega) (by omega)).mono ?_; rintro e w' ⟨rfl, rfl⟩)
        | (at_builtin; refine wp_app1 rfl _ _ 22 rfl w.heap.size 3 i0 Try.underlying22 HI.out HZ0.out HZ1.out HZ2.out _ _ _ rfl hown _ rfl (by omega) hsz ?_))
      intro v' w1 h1 hb1 _
      have hbel' := hbel.trans hb1
      rw [← HP.out] at h1
      clear hown hbel hb1
      go_wp2
      go_roundw
      case rel => exact ⟨k + 1, by omega, by go_num, h1, hbel'⟩
      case measure => simp [intOf]; omega
    · have H : Hid (vals p x = valsTo p x k) := Lib.hid (by rw [vals, HL.out, show n = k from by omega])
      rw [← H.out] at hown
      go_wp2
      go_ret
      exact retOwn_mk hown hbel (by omega)
theorem poTerms_c (A : Option Addr) (n c : Nat) (p : List Int) (x : Int) (B : Nat) (w : World) (h : Rd w B A n p) (hB : B ≤ w.heap.size) (hp : isPol p = true) (hx : isFin x = true) :
    Calls Try.prog 52 #[.slice A n c, .int .i64 x] w (RetOwn 3 (vals p x) w) := by
  have hm := h.le
  have HL := Lib.hid h.len
  have hn : n ≤ 13 := by have := isPol_len hp; have := h.len; omega
  have hxb := (isFin_iff x).1 hx
  have HA := Lib.hid (isPol_all hp)
  clear hp hx
  obtain ⟨i0, hi, hz0, hz1, hz2⟩ := info_parts info_int
  have HI := Lib.hid hi
  have HZ0 := Lib.hid hz0
  have HZ1 := Lib.hid hz1
  have HZ2 := Lib.hid hz2
  clear hi hz0 hz1 hz2
  go_enter Try.func52, Try.ntmps52
  go_wp2
  go_loopw [5, 10] (fun v i wr => ∃ k : Nat, k ≤ n ∧ i = .int .i64 k ∧ Own wr w.heap.size 3 v k (valsTo p x k) ∧ Below w.heap.size w wr) (fun _ i _ => n - (intOf i).toNat)
  case atStart => exact ⟨0, Nat.zero_le _, rfl, Own.nil _ _ _, Below.refl _ _⟩
  case round =>
    obtain ⟨k, hk, rfl, hown, hbel⟩ := hrel
    have hsz := hbel.size
    by_cases hlt : k < n
    · obtain ⟨ad, rfl, _, hc⟩ := (h.below (hbel.mono hB)).at_ hlt
      have b1 := isNum_bd (List.all_eq_true.1 HA.out _ (getD_mem (show k < p.length by rw [HL.out]; exact hlt)))
      have b2 := term_bd (i := k) hxb (by omega)
      have HP : Hid (valsTo p x (k + 1) = valsTo p x k ++ [prod (p.getD k 0) ((k : Int) * x)]) := Lib.hid rfl
      generalize p.getD k 0 = z at *
      cases hq : (z != 1000000000)
      · have HQ : Hid (prod z ((k : Int) * x) = z) := Lib.hid (by have : z = 1000000000 := by simpa using hq
                                                                  rw [prod, if_pos (.inl this), this])
        rw [HQ.out] at HP
        go_wp2_with (at_builtin; refine wp_app1 rfl _ _ 22 rfl w.heap.size 3 i0 Try.underlying22 HI.out HZ0.out HZ1.out HZ2.out _ _ _ rfl hown _ rfl (by omega) hsz ?_)
        intro v' w1 h1 hb1 _
        have hbel' := hbel.trans hb1
        rw [← HP.out] at h1
        clear hown hbel hb1
        go_wp2
        go_roundw
        case rel => exact ⟨k + 1, by omega, by go_num, h1, hbel'⟩
        case measure => simp [intOf]; omega
      · have HQ : Hid (prod z ((k : Int) * x) = z + (k : Int) * x) := Lib.hid (by have : z ≠ 1000000000 := by simpa using hq
                                                                                  rw [prod, if_neg (by omega)])
        rw [HQ.out] at HP
        go_wp2_with (at_builtin; refine wp_app1 rfl _ _ 22 rfl w.heap.size 3 i0 Try.underlying22 HI.out HZ0.out HZ1.out HZ2.out _ _ _ rfl hown _ rfl (by omega) hsz ?_)
        intro v' w1 h1 hb1 _
        have hbel' := hbel.trans hb1
        rw [← HP.out] at h1
        clear hown hbel hb1
        go_wp2
        go_roundw
        case rel => exact ⟨k + 1, by omega, by go_num, h1, hbel'⟩
        case measure => simp [intOf]; omega
    · have H : Hid (vals p x = valsTo p x k) := Lib.hid (by rw [vals, HL.out, show n = k from by omega])
      rw [← H.out] at hown
      go_wp2
      go_ret
      exact retOwn_mk hown hbel (by omega)
theorem poAsked_c (A : Option Addr) (n c : Nat) (p : List Int) (x : Int) (w : World) (h : Rd w w.heap.size A n p) :
    Calls Try.prog 57 #[.slice A n c, .int .i64 x] w fun e w' => e = .returned (.bool (asked p x)) ∧ Below w.heap.size w w' := by
  cases hp : isPol p <;> cases hx : isFin x
  case true.true =>
    have H : Hid (asked p x = isFin (least (vals p x))) := Lib.hid (by rw [asked, hp, hx]; rfl)
    have HP := Lib.hid hp
    have HX := Lib.hid hx
    clear hp hx
    go_enter Try.func57, Try.ntmps57
    go_wp2_with (first
      | (go_at_call 45; refine (poGood_c _ _ _ _ _ _ h).mono ?_; rw [HP.out]; rintro e w' ⟨rfl, rfl⟩)
      | (go_at_call_of 51 x; refine (poFinite_c _ _).mono ?_; rw [HX.out]; rintro e w' ⟨rfl, rfl⟩)
      | (go_at_call 52; refine (poTerms_c _ _ _ _ _ _ _ h (Nat.le_refl _) HP.out HX.out).mono ?_; rintro e w1 ⟨A1, n1, c1, rfl, hown, hb, hn1⟩)
      | (go_at_call 58; refine (nuSum_c _ _ _ _ _ _ hown.rd).mono ?_; rintro e w' ⟨rfl, rfl⟩)
      | (go_at_call 51; refine (poFinite_c _ _).mono ?_; rintro e w' ⟨rfl, rfl⟩))
    go_ret
    exact ⟨retB H.out.symm, hb⟩
  all_goals
    have H : Hid (asked p x = false) := Lib.hid (by rw [asked, hp, hx]; rfl)
    have HP := Lib.hid hp
    have HX := Lib.hid hx
    clear hp hx
    go_enter Try.func57, Try.ntmps57
    go_wp2_with (first
      | (go_at_call 45; refine (poGood_c _ _ _ _ _ _ h).mono ?_; rw [HP.out]; rintro e w' ⟨rfl, rfl⟩)
      | (go_at_call 51; refine (poFinite_c _ _).mono ?_; rw [HX.out]; rintro e w' ⟨rfl, rfl⟩))
    go_ret
    exact ⟨retB H.out.symm, Below.refl _ _⟩
theorem poAt_c (A : Option Addr) (n c : Nat) (p : List Int) (i : Int) (B : Nat) (w : World) (h : Rd w B A n p) (h0 : 0 ≤ i) (h1 : i ≤ 1000000) :
    Calls Try.prog 49 #[.slice A n c, .int .i64 i] w fun e w' => e = .returned (.int .i64 (coef p i.toNat)) ∧ w = w' := by
  have hm := h.le
  obtain ⟨k, rfl⟩ := Int.eq_ofNat_of_zero_le h0
  by_cases hk : k < n
  · have H := Lib.hid (coef_in (p := p) (i := k) (by rw [h.len]; exact hk))
    obtain ⟨ad, rfl, _, hc⟩ := h.at_ hk
    go_enter Try.func49, Try.ntmps49
    go_wp2_with fail
    go_ret
    exact ⟨retI (by rw [Int.toNat_natCast, H.out]; try rfl), rfl⟩
  · have H := Lib.hid (coef_out (p := p) (i := k) (by rw [h.len]; omega))
    go_enter Try.func49, Try.ntmps49
    go_wp2_with fail
    go_ret
    exact ⟨retI (by rw [Int.toNat_natCast, H.out]; try rfl), rfl⟩
theorem coefficient_c (A : Option Addr) (n c : Nat) (p : List Int) (i : Int) (B : Nat) (w : World) (h : Rd w B A n p) (h0 : 0 ≤ i) (h1 : i ≤ 1000000) :
    Calls Try.prog 50 #[.slice A n c, .int .i64 i] w fun e w' => e = .returned (.int .i64 (coef p i.toNat)) ∧ w = w' := by
  have hm := h.le
  obtain ⟨k, rfl⟩ := Int.eq_ofNat_of_zero_le h0
  by_cases hk : k < n
  · have H := Lib.hid (coef_in (p := p) (i := k) (by rw [h.len]; exact hk))
    obtain ⟨ad, rfl, _, hc⟩ := h.at_ hk
    go_enter Try.func50, Try.ntmps50
    go_wp2_with fail
    go_ret
    exact ⟨retI (by rw [Int.toNat_natCast, H.out]; try rfl), rfl⟩
  · have H := Lib.hid (coef_out (p := p) (i := k) (by rw [h.len]; omega))
    go_enter Try.func50, Try.ntmps50
    go_wp2_with fail
    go_ret
    exact ⟨retI (by rw [Int.toNat_natCast, H.out]; try rfl), rfl⟩
end Go.Proofs.Ythhgakojkcmoiaa
