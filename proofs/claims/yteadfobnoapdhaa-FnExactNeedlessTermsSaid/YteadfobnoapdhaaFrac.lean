/- The walks of the functions on fractions (both packages), each against its plain function. -/
import Derived.Test.YteadfobnoapdhaaNum
import Derived.Test.YteadfobnoapdhaaPureFrac
import Derived.RegionTactic
namespace Go.Proofs.Yteadfobnoapdhaa
open Go.RowKit

theorem abs_c (n : Int) (w : World) (h : -9000000000000000000 ≤ n) (h' : n ≤ 9000000000000000000) :
    Calls Try.prog 25 #[.int .i64 n] w fun e w' => e = .returned (.int .i64 (n.natAbs : Int)) ∧ w = w' := by
  by_cases hn : n < -n
  all_goals
    go_enter Try.func25, Try.ntmps25
    go_wp2
    go_ret
    exact ⟨retI (by show _ = (n.natAbs : Int); omega), rfl⟩
theorem gcd_c (a b : Int) (w : World) (ha : -4000000000000000000 ≤ a) (ha' : a ≤ 4000000000000000000) (hb : -4000000000000000000 ≤ b) (hb' : b ≤ 4000000000000000000) :
    Calls Try.prog 23 #[.int .i64 a, .int .i64 b] w fun e w' => e = .returned (.int .i64 (gcdI a b)) ∧ Below w.heap.size w w' := by
  have G : Hid (Nat.gcd a.natAbs b.natAbs = (gcdI a b).toNat) := Lib.hid (by unfold gcdI; omega)
  have hg := gcdI_nn a b
  generalize gcdI a b = g at *
  go_enter Try.func23, Try.ntmps23
  go_wp2_with fail
  refine (abs_c _ _ (by omega) (by omega)).mono ?_; rintro e w1 ⟨rfl, rfl⟩
  go_wp2_with fail
  refine (abs_c _ _ (by omega) (by omega)).mono ?_; rintro e w1 ⟨rfl, rfl⟩
  go_wp2_with fail
  go_loopw [0, 1] (fun p q wr => ∃ (x y k : Nat), p = .int .i64 x ∧ q = .int .i64 y ∧ Hid (Nat.gcd x y = g.toNat) ∧ x ≤ 4000000000000000000 ∧ y ≤ 4000000000000000000 ∧ wr = w.drewN k) (fun _ q _ => (intOf q).toNat)
  case atStart => exact ⟨a.natAbs, b.natAbs, 0, rfl, rfl, G, by omega, by omega, rfl⟩
  case round =>
    obtain ⟨x, y, k, rfl, rfl, hxy, hx, hy, rfl⟩ := hrel
    by_cases h0 : y = 0
    · have hq : ((y : Int) != 0) = false := by simp [h0]
      have H : Hid ((x : Int) = g) := Lib.hid (by have := hxy.out; rw [h0, Nat.gcd_zero_right] at this; omega)
      clear h0
      go_wp2_with fail
      go_ret
      exact ⟨retI H.out, below_drewN (Below.refl _ _) _⟩
    · have hq : ((y : Int) != 0) = true := by rw [bne_iff_ne]; omega
      have h1 : (1 : Int) ≤ (y : Int) := by omega
      have h2 : (0 : Int) ≤ (x : Int) := by omega
      have hmod := Nat.mod_lt x (show 0 < y by omega)
      have H : Hid (Nat.gcd y (x % y) = g.toNat) := Lib.hid (by rw [gcd_step]; exact hxy.out)
      go_wp2_with fail
      go_quiet (fail)
      go_wp2_with fail
      go_roundw
      case rel => exact ⟨y, x % y, _, rfl, by simp, H, by omega, by omega, by first | rfl | rw [World.drewN_drewN]⟩
      case measure => simp [intOf]; omega
/- The test of a fraction -/
theorem isFr_cases {a b : Int} {x y z : Bool} (h1 : (decide (-1000000000 ≤ a) && decide (a ≤ 1000000000)) = x) (h2 : (decide (1 ≤ b) && decide (b ≤ 1000000000)) = y) (h3 : (gcdI a b == 1) = z) : isFr a b = (x && y && z) := by
  rw [isFr, h3, ← h1, ← h2]
  congr 1
  rw [Bool.eq_iff_iff]
  simp [and_assoc]
/- Lowest terms -/
theorem sgcd_neg {n d : Int} (h : d < 0) : sgcd n d = -gcdI n d := by rw [sgcd, if_pos h]
theorem sgcd_pos {n d : Int} (h : ¬ d < 0) : sgcd n d = gcdI n d := by rw [sgcd, if_neg h]
theorem low_neg {n d : Int} (h : d < 0) : lowN n d = -(n.tdiv (gcdI n d)) ∧ lowD n d = -(d.tdiv (gcdI n d)) := by rw [lowN, lowD, sgcd_neg h, Int.tdiv_neg, Int.tdiv_neg]; exact ⟨rfl, rfl⟩
theorem low_pos {n d : Int} (h : ¬ d < 0) : lowN n d = n.tdiv (gcdI n d) ∧ lowD n d = d.tdiv (gcdI n d) := by rw [lowN, lowD, sgcd_pos h]; exact ⟨rfl, rfl⟩
theorem lowest_c (n d : Int) (w : World) (hd : d ≠ 0) (hn : -4000000000000000000 ≤ n) (hn' : n ≤ 4000000000000000000) (hd1 : -4000000000000000000 ≤ d) (hd2 : d ≤ 4000000000000000000) :
    Calls Try.prog 21 #[.int .i64 n, .int .i64 d] w fun e w' => e = .returned (.agg #[.int .i64 (lowN n d), .int .i64 (lowD n d)]) ∧ Below w.heap.size w w' := by
  have g1 := gcdI_pos (a := n) hd
  have g2 := gcdI_le (a := n) hd
  have t1 := tdiv_bd (x := n) (show gcdI n d ≠ 0 by omega) hn hn'
  have t2 := tdiv_bd (x := d) (show gcdI n d ≠ 0 by omega) hd1 hd2
  by_cases hneg : d < 0
  · have H1 : Hid (lowN n d = -(n.tdiv (gcdI n d))) := Lib.hid (by rw [lowN, sgcd_neg hneg, Int.tdiv_neg])
    have H2 : Hid (lowD n d = -(d.tdiv (gcdI n d))) := Lib.hid (by rw [lowD, sgcd_neg hneg, Int.tdiv_neg])
    go_enter Try.func21, Try.ntmps21
    go_wp2_with fail
    refine (gcd_c _ _ _ hn hn' hd1 hd2).mono ?_; rintro e w1 ⟨rfl, hb⟩
    have P := (Bx.new w [.int .i64 0, .int .i64 0] 32).go hb
    have bel := bel_step (bel_new _ _) hb
    generalize gcdI n d = g at *
    have hc0 := P.at0
    have hc1 := P.at1
    have hf0 := P.fz 0
    have hf1 := P.fz 1
    go_wp2_with fail
    go_region
    go_wp2_with fail
    refine bodyPost_ret (v := .agg #[.int .i64 (-n.tdiv g), .int .i64 (-d.tdiv g)]) (by simp [results, Try.results21, go_sem, *]) rfl ⟨by rw [H1.out, H2.out], ?_⟩
    repeat (first | exact bel | refine Below.drew ?_ | refine bel_set ?_ (by first | exact Nat.le_refl _ | simp) _ | refine bel_alloc ?_ _)
  · have H1 : Hid (lowN n d = n.tdiv (gcdI n d)) := Lib.hid (by rw [lowN, sgcd_pos hneg])
    have H2 : Hid (lowD n d = d.tdiv (gcdI n d)) := Lib.hid (by rw [lowD, sgcd_pos hneg])
    go_enter Try.func21, Try.ntmps21
    go_wp2_with fail
    refine (gcd_c _ _ _ hn hn' hd1 hd2).mono ?_; rintro e w1 ⟨rfl, hb⟩
    have P := (Bx.new w [.int .i64 0, .int .i64 0] 32).go hb
    have bel := bel_step (bel_new _ _) hb
    generalize gcdI n d = g at *
    have hc0 := P.at0
    have hc1 := P.at1
    have hf0 := P.fz 0
    have hf1 := P.fz 1
    go_wp2_with fail
    go_region
    go_wp2_with fail
    refine bodyPost_ret (v := .agg #[.int .i64 (n.tdiv g), .int .i64 (d.tdiv g)]) (by simp [results, Try.results21, go_sem, *]) rfl ⟨by rw [H1.out, H2.out], ?_⟩
    repeat (first | exact bel | refine Below.drew ?_ | refine bel_set ?_ (by first | exact Nat.le_refl _ | simp) _ | refine bel_alloc ?_ _)
end Go.Proofs.Yteadfobnoapdhaa
