/- The mean of numbers: both packages' functions, and the walk of the law. -/
import Derived.Test.YtbmnighaphbbgaaWFrac
import Derived.Test.YtbmnighaphbbgaaFin
import Derived.Test.YtbmnighaphbbgaaMem
namespace Go.Proofs.Ytbmnighaphbbgaa
open Go.RowKit
def sumTo (zs : List Int) : Nat → Int
  | 0 => 0
  | k + 1 => sumTo zs k + zs.getD k 0
theorem sumTo_bd {zs : List Int} (h : zs.all isFin = true) : ∀ k, k ≤ zs.length → -(1000000 * (k : Int)) ≤ sumTo zs k ∧ sumTo zs k ≤ 1000000 * (k : Int)
  | 0, _ => by simp [sumTo]
  | k + 1, hk => by
    have h1 := sumTo_bd h k (by omega)
    have h2 := (isFin_iff _).1 (List.all_eq_true.1 h _ (getD_mem (show k < zs.length by omega)))
    rw [sumTo]
    omega
def meanOk (zs : List Int) : Bool := decide (1 ≤ zs.length ∧ zs.length ≤ 40) && zs.all isFin
def pMean (zs : List Int) : (Int × Int) × Bool := if meanOk zs then mkFr (sumTo zs zs.length) zs.length else ((0, 0), false)
theorem specMeanOfNumbers_c (A : Option Addr) (n c : Nat) (zs : List Int) (w : World) (h : Rd w w.heap.size A n zs) (_hn : n ≤ 1048576) :
    Calls Try.prog 34 #[.slice A n c] w fun e w' => e = .returned (.tuple #[.agg #[.int .i64 (pMean zs).1.1, .int .i64 (pMean zs).1.2], .bool (pMean zs).2]) ∧ Below w.heap.size w w' := by
  have hm := h.le
  have hl := h.len
  have X := Bx.new w [.int .i64 0, .int .i64 0] 25
  have hr0 := X.at0
  have hr1 := X.at1
  have hf0 := X.fz 0
  have hf1 := X.fz 1
  have bel := Below.refl w.heap.size w
  have h' := h.new (Nat.le_refl _) (.cells #[.int .i64 0, .int .i64 0] 25)
  cases h1 : (decide (1 ≤ (n : Int)) && decide ((n : Int) ≤ 40)) <;> cases h2 : zs.all isFin
  case true.true =>
    have hb : 1 ≤ n ∧ n ≤ 40 := by
      simp only [Bool.and_eq_true, decide_eq_true_eq] at h1
      omega
    have HP : Hid (pMean zs = mkFr (sumTo zs n) n) := Lib.hid (by rw [pMean, meanOk, hl, h2, decide_eq_true hb]; rfl)
    have HS := Lib.hid (sumTo_bd h2)
    have HL := Lib.hid hl
    have H1 := Lib.hid h1
    have H2 := Lib.hid h2
    clear h1 h2 hl
    go_enter Try.func34, Try.ntmps34
    go_wp2_with (first
      | (go_at_call 51; refine (l1In_c _ _ _ _).mono ?_; rw [H1.out]; rintro e w' ⟨rfl, rfl⟩)
      | (go_at_call 64; refine (l1AllFin_c _ _ _ _ _ _ h').mono ?_; rw [H2.out]; rintro e w' ⟨rfl, rfl⟩))
    go_loop [4, 19] (fun s i => ∃ k : Nat, k ≤ n ∧ i = .int .i64 k ∧ s = .int .i64 (sumTo zs k)) (fun _ i => n - (intOf i).toNat)
    case atStart => exact ⟨0, Nat.zero_le _, rfl, rfl⟩
    case round =>
      obtain ⟨k, hk, rfl, rfl⟩ := hrel
      have hs := HS.out k (by rw [HL.out]; exact hk)
      by_cases hlt : k < n
      · obtain ⟨ad, rfl, _, hc⟩ := h'.at_ hlt
        have hs1 := HS.out (k + 1) (by rw [HL.out]; exact hlt)
        have HN : Hid (sumTo zs (k + 1) = sumTo zs k + zs.getD k 0) := Lib.hid rfl
        rw [HN.out] at hs1
        generalize zs.getD k 0 = z at *
        go_wp2_with fail
        go_round
        case rel => exact ⟨k + 1, by omega, by go_num, by rw [HN.out]⟩
        case measure => simp [intOf]; omega
      · obtain rfl : k = n := by omega
        go_wp2_with fail
        refine (frMake_c _ _ _ (by omega) (by omega) (by omega) (by omega)).mono ?_; rintro e w1 ⟨rfl, hb1⟩
        have bel := bel_step (bel_new _ _) hb1
        have R := X.go hb1
        have hr0 := R.at0
        have hr1 := R.at1
        have hf0 := R.fz 0
        have hf1 := R.fz 1
        go_wp2_with fail
        refine bodyPost_ret (v := .tuple #[.agg #[.int .i64 (mkFr (sumTo zs k) k).1.1, .int .i64 (mkFr (sumTo zs k) k).1.2], .bool (mkFr (sumTo zs k) k).2]) (by simp [results, Try.results34, go_sem, *]) rfl ⟨?_, ?_⟩
        · rw [HP.out]
        · (repeat (first | exact bel | refine Below.drew ?_ | refine bel_set ?_ (by first | exact Nat.le_refl _ | (dsimp only; omega) | omega) _ | refine bel_alloc ?_ _))
  all_goals
    have HP : Hid (pMean zs = ((0, 0), false)) := Lib.hid (by
      have : meanOk zs = false := by
        rw [meanOk, hl, h2]
        first
          | exact Bool.and_false _
          | (rw [Bool.and_true, decide_eq_false_iff_not]; simp only [Bool.and_eq_false_iff, decide_eq_false_iff_not] at h1; omega)
      rw [pMean, this]; rfl)
    have H1 := Lib.hid h1
    have H2 := Lib.hid h2
    clear h1 h2 hl
    go_enter Try.func34, Try.ntmps34
    go_wp2_with (first
      | (go_at_call 51; refine (l1In_c _ _ _ _).mono ?_; rw [H1.out]; rintro e w' ⟨rfl, rfl⟩)
      | (go_at_call 64; refine (l1AllFin_c _ _ _ _ _ _ h').mono ?_; rw [H2.out]; rintro e w' ⟨rfl, rfl⟩))
    refine bodyPost_ret (v := .tuple #[.agg #[.int .i64 0, .int .i64 0], .bool false]) (by simp [results, Try.results34, go_sem, *]) rfl ⟨?_, ?_⟩
    · rw [HP.out]
    · (repeat (first | exact bel | refine Below.drew ?_ | refine bel_set ?_ (by first | exact Nat.le_refl _ | (dsimp only; omega) | omega) _ | refine bel_alloc ?_ _))
theorem implMeanOfNumbers_c (A : Option Addr) (n c : Nat) (zs : List Int) (w : World) (h : Rd w w.heap.size A n zs) (_hn : n ≤ 1048576) :
    Calls Try.prog 36 #[.slice A n c] w fun e w' => e = .returned (.tuple #[.agg #[.int .i64 (pMean zs).1.1, .int .i64 (pMean zs).1.2], .bool (pMean zs).2]) ∧ Below w.heap.size w w' := by
  have hm := h.le
  have hl := h.len
  have X := Bx.new w [.int .i64 0, .int .i64 0] 25
  have hr0 := X.at0
  have hr1 := X.at1
  have hf0 := X.fz 0
  have hf1 := X.fz 1
  have bel := Below.refl w.heap.size w
  have h' := h.new (Nat.le_refl _) (.cells #[.int .i64 0, .int .i64 0] 25)
  cases h1 : (decide (1 ≤ (n : Int)) && decide ((n : Int) ≤ 40)) <;> cases h2 : zs.all isFin
  case true.true =>
    have hb : 1 ≤ n ∧ n ≤ 40 := by
      simp only [Bool.and_eq_true, decide_eq_true_eq] at h1
      omega
    have HP : Hid (pMean zs = mkFr (sumTo zs n) n) := Lib.hid (by rw [pMean, meanOk, hl, h2, decide_eq_true hb]; rfl)
    have HS := Lib.hid (sumTo_bd h2)
    have HL := Lib.hid hl
    have H1 := Lib.hid h1
    have H2 := Lib.hid h2
    clear h1 h2 hl
    go_enter Try.func36, Try.ntmps36
    go_wp2_with (first
      | (go_at_call 53; refine (within_c _ _ _ _).mono ?_; rw [H1.out]; rintro e w' ⟨rfl, rfl⟩)
      | (go_at_call 65; refine (areFinite_c _ _ _ _ _ _ h').mono ?_; rw [H2.out]; rintro e w' ⟨rfl, rfl⟩))
    go_loop [4, 19] (fun s i => ∃ k : Nat, k ≤ n ∧ i = .int .i64 k ∧ s = .int .i64 (sumTo zs k)) (fun _ i => n - (intOf i).toNat)
    case atStart => exact ⟨0, Nat.zero_le _, rfl, rfl⟩
    case round =>
      obtain ⟨k, hk, rfl, rfl⟩ := hrel
      have hs := HS.out k (by rw [HL.out]; exact hk)
      by_cases hlt : k < n
      · obtain ⟨ad, rfl, _, hc⟩ := h'.at_ hlt
        have hs1 := HS.out (k + 1) (by rw [HL.out]; exact hlt)
        have HN : Hid (sumTo zs (k + 1) = sumTo zs k + zs.getD k 0) := Lib.hid rfl
        rw [HN.out] at hs1
        generalize zs.getD k 0 = z at *
        go_wp2_with fail
        go_round
        case rel => exact ⟨k + 1, by omega, by go_num, by rw [HN.out]⟩
        case measure => simp [intOf]; omega
      · obtain rfl : k = n := by omega
        have hne : (k : Int) ≠ 0 := by omega
        have HM := Lib.hid (mkFr_if (n := sumTo zs k) hne)
        have HNE := Lib.hid hne
        clear hne
        go_wp2_with fail
        refine (lowest_c _ _ _ HNE.out (by omega) (by omega) (by omega) (by omega)).mono ?_; rintro e w1 ⟨rfl, hb1⟩
        have bel := bel_step (bel_new _ _) hb1
        have R := X.go hb1
        go_wp2_with fail
        refine (toldFrac_c _ _ _).mono ?_; rintro e w3 ⟨rfl, hb3⟩
        have bel := bel_step bel hb3
        have R := R.go hb3
        have hr0 := R.at0
        have hr1 := R.at1
        have hf0 := R.fz 0
        have hf1 := R.fz 1
        go_wp2_with fail
        refine bodyPost_ret (v := .tuple #[.agg #[.int .i64 (okN (lowN (sumTo zs k) k) (lowD (sumTo zs k) k)), .int .i64 (okD (lowN (sumTo zs k) k) (lowD (sumTo zs k) k))], .bool (isFr (lowN (sumTo zs k) k) (lowD (sumTo zs k) k))]) (by simp [results, Try.results36, go_sem, *]) rfl ⟨?_, ?_⟩
        · rw [HP.out, HM.out]
        · (repeat (first | exact bel | refine Below.drew ?_ | refine bel_set ?_ (by first | exact Nat.le_refl _ | (dsimp only; omega) | omega) _ | refine bel_alloc ?_ _))
  all_goals
    have HP : Hid (pMean zs = ((0, 0), false)) := Lib.hid (by
      have : meanOk zs = false := by
        rw [meanOk, hl, h2]
        first
          | exact Bool.and_false _
          | (rw [Bool.and_true, decide_eq_false_iff_not]; simp only [Bool.and_eq_false_iff, decide_eq_false_iff_not] at h1; omega)
      rw [pMean, this]; rfl)
    have H1 := Lib.hid h1
    have H2 := Lib.hid h2
    clear h1 h2 hl
    go_enter Try.func36, Try.ntmps36
    go_wp2_with (first
      | (go_at_call 53; refine (within_c _ _ _ _).mono ?_; rw [H1.out]; rintro e w' ⟨rfl, rfl⟩)
      | (go_at_call 65; refine (areFinite_c _ _ _ _ _ _ h').mono ?_; rw [H2.out]; rintro e w' ⟨rfl, rfl⟩))
    refine bodyPost_ret (v := .tuple #[.agg #[.int .i64 0, .int .i64 0], .bool false]) (by simp [results, Try.results36, go_sem, *]) rfl ⟨?_, ?_⟩
    · rw [HP.out]
    · (repeat (first | exact bel | refine Below.drew ?_ | refine bel_set ?_ (by first | exact Nat.le_refl _ | (dsimp only; omega) | omega) _ | refine bel_alloc ?_ _))
theorem walk_FnExactMeanOfNumbers (A0 : Option Addr) (n0 c0 : Nat) (z0 : List Int) (w : World) (r0 : Rd w w.heap.size A0 n0 z0) :
  Calls Try.prog 12 #[.slice A0 n0 c0] w fun e w' => e = .returned (.bool true) ∧ Below w.heap.size w w' := by
  have l0 := r0.le
  by_cases s0 : n0 ≤ 1048576
  rotate_left
  · go_enter Try.func12, Try.ntmps12
    go_wp2_with fail
    go_ret
    exact ⟨rfl, Below.refl _ _⟩
  go_enter Try.func12, Try.ntmps12
  have bel : Below w.heap.size w w := Below.refl _ _
  go_wp2_with fail
  refine (toIntS_c _ _ _ _ _ _ (r0.below bel) bel.size (by omega)).mono ?_
  rintro e u1 ⟨AT0, nT0, cT0, rfl, T0, hb1, qT0⟩
  have bel := bel_step bel hb1
  have eT0 : nT0 ≤ 1048576 := by have := T0.len; have := r0.len; omega
  go_wp2_with fail
  refine (specMeanOfNumbers_c _ _ _ _ _ T0.rd eT0).mono ?_
  rintro e u2 ⟨rfl, hb2⟩
  have bel := bel_alloc (bel_step bel hb2) (.cells #[.int .i64 (pMean z0).1.1, .int .i64 (pMean z0).1.2] 25)
  have P := Bx.new u2 [.int .i64 (pMean z0).1.1, .int .i64 (pMean z0).1.2] 25
  go_wp2_with fail
  refine (toIntS_c _ _ _ _ _ _ (r0.below bel) bel.size (by omega)).mono ?_
  rintro e u3 ⟨AX0, nX0, cX0, rfl, X0, hb3, qX0⟩
  have bel := bel_step bel hb3
  have P := P.go hb3
  have eX0 : nX0 ≤ 1048576 := by have := X0.len; have := r0.len; omega
  go_wp2_with fail
  refine (implMeanOfNumbers_c _ _ _ _ _ X0.rd eX0).mono ?_
  rintro e u4 ⟨rfl, hb4⟩
  have bel := bel_alloc (bel_step bel hb4) (.cells #[.int .i64 (pMean z0).1.1, .int .i64 (pMean z0).1.2] 25)
  have P := (P.go hb4).alloc (.cells #[.int .i64 (pMean z0).1.1, .int .i64 (pMean z0).1.2] 25)
  have X0 := (X0.go hb4).new (.cells #[.int .i64 (pMean z0).1.1, .int .i64 (pMean z0).1.2] 25)
  have p0 := P.at0
  have p1 := P.at1
  go_wp2_with fail
  refine (eqFrac_c _ _ _).mono ?_; rintro e u5 ⟨rfl, hb5⟩
  have bel := bel_step bel hb5
  have X0 := X0.go hb5
  go_wp2_with fail
  refine (toIntS_c _ _ _ _ _ _ (r0.below bel) bel.size (by omega)).mono ?_
  rintro e u6 ⟨AY0, nY0, cY0, rfl, Y0, hb6, qY0⟩
  have bel := bel_step bel hb6
  have X0 := X0.go hb6
  go_wp2_with fail
  refine (eqIntS_c _ _ _ _ _ _ _ _ _ _ X0.rd Y0.rd).mono ?_; rintro e u7 ⟨rfl, hb7⟩
  have bel := bel_step bel hb7
  go_wp2_with fail
  go_ret
  exact ⟨rfl, bel⟩
end Go.Proofs.Ytbmnighaphbbgaa
