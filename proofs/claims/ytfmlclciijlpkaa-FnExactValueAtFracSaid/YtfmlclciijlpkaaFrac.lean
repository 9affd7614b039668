/- The walks of the functions on fractions (both packages), each against its plain function. -/
import Derived.Test.YtfmlclciijlpkaaNum
import Derived.Test.YtfmlclciijlpkaaPureFrac
import Derived.RegionTactic
namespace Go.Proofs.Ytfmlclciijlpkaa
open Go.RowKit

theorem abs_c (n : Int) (w : World) (h : -9000000000000000000 ≤ n) (h' : n ≤ 9000000000000000000) :
    Calls Try.prog 56 #[.int .i64 n] w fun e w' => e = .returned (.int .i64 (n.natAbs : Int)) ∧ w = w' := by
  by_cases hn : n < -n
  all_goals
    go_enter Try.func56, Try.ntmps56
    go_wp2
    go_ret
    exact ⟨retI (by show _ = (n.natAbs : Int); omega), rfl⟩
theorem l1Abs_c (n : Int) (w : World) (h : -9000000000000000000 ≤ n) (h' : n ≤ 9000000000000000000) :
    Calls Try.prog 55 #[.int .i64 n] w fun e w' => e = .returned (.int .i64 (n.natAbs : Int)) ∧ w = w' := by
  by_cases hn : -n < n
  all_goals
    go_enter Try.func55, Try.ntmps55
    go_wp2
    go_ret
    exact ⟨retI (by show _ = (n.natAbs : Int); omega), rfl⟩
theorem gcd_c (a b : Int) (w : World) (ha : -4000000000000000000 ≤ a) (ha' : a ≤ 4000000000000000000) (hb : -4000000000000000000 ≤ b) (hb' : b ≤ 4000000000000000000) :
    Calls Try.prog 49 #[.int .i64 a, .int .i64 b] w fun e w' => e = .returned (.int .i64 (gcdI a b)) ∧ Below w.heap.size w w' := by
  have G : Hid (Nat.gcd a.natAbs b.natAbs = (gcdI a b).toNat) := Lib.hid (by unfold gcdI; omega)
  have hg := gcdI_nn a b
  generalize gcdI a b = g at *
  go_enter Try.func49, Try.ntmps49
  go_wp2_with fail
  refine (abs_c _ _ (by omega) (by omega)).mono ?_; rintro e w1 ⟨rfl, rfl⟩
  go_wp2_with fail
  refine (abs_c _ _ (by omega) (by omega)).mono ?_; rintro e w1 ⟨rfl, rfl⟩
  go_wp2_with fail
  go_loopw [0, 1] (fun p q wr => ∃ (x y k : Nat), p = .int .i64 x ∧ q = .int .i64 y ∧ Hid (Nat.gcd x y = g.toNat) ∧ x ≤ 4000000000000000000 ∧ y ≤ 4000000000000000000 ∧ wr = w.drewN k) (fun _ q _ => (intOf q).toNat)
  case atStart => exact ⟨a.natAbs, b.natAbs, 0, rfl, rfl, G, by omega, by omega, rfl⟩
  case round =>
    obtain ⟨x, y, k, rfl, rfl, hxy, hx, hy, rfl⟩ := hrel
    by_cases h0 : y = 0
    · have hq : ((y : Int) != 0) = false := by simp [h0]
      have H : Hid ((x : Int) = g) := Lib.hid (by have := hxy.out; rw [h0, Nat.gcd_zero_right] at this; omega)
      clear h0
      go_wp2_with fail
      go_ret
      exact ⟨retI H.out, below_drewN (Below.refl _ _) _⟩
    · have hq : ((y : Int) != 0) = true := by rw [bne_iff_ne]; omega
      have h1 : (1 : Int) ≤ (y : Int) := by omega
      have h2 : (0 : Int) ≤ (x : Int) := by omega
      have hmod := Nat.mod_lt x (show 0 < y by omega)
      have H : Hid (Nat.gcd y (x % y) = g.toNat) := Lib.hid (by rw [gcd_step]; exact hxy.out)
      go_wp2_with fail
      go_quiet (fail)
      go_wp2_with fail
      go_roundw
      case rel => exact ⟨y, x % y, _, rfl, by simp, H, by omega, by omega, by first | rfl | rw [World.drewN_drewN]⟩
      case measure => simp [intOf]; omega
theorem frGcd_c (a b : Int) (w : World) (ha : -4000000000000000000 ≤ a) (ha' : a ≤ 4000000000000000000) (hb : -4000000000000000000 ≤ b) (hb' : b ≤ 4000000000000000000) :
    Calls Try.prog 46 #[.int .i64 a, .int .i64 b] w fun e w' => e = .returned (.int .i64 (gcdI a b)) ∧ w = w' := by
  have G : Hid (Nat.gcd a.natAbs b.natAbs = (gcdI a b).toNat) := Lib.hid (by unfold gcdI; omega)
  have hg := gcdI_nn a b
  generalize gcdI a b = g at *
  go_enter Try.func46, Try.ntmps46
  go_wp2_with fail
  go_loop [0, 1, 5] (fun p q _r => ∃ x y : Int, p = .int .i64 x ∧ q = .int .i64 y ∧ Hid (Nat.gcd x.natAbs y.natAbs = g.toNat) ∧ -4000000000000000000 ≤ x ∧ x ≤ 4000000000000000000 ∧ -4000000000000000000 ≤ y ∧ y ≤ 4000000000000000000) (fun _ q _ => (intOf q).natAbs)
  case atStart => exact ⟨a, b, rfl, rfl, G, ha, ha', hb, hb'⟩
  case round =>
    obtain ⟨x, y, rfl, rfl, hxy, hx, hx', hy, hy'⟩ := hrel
    cases h0 : (y != 0)
    · have H : Hid ((x.natAbs : Int) = g) := Lib.hid (by
        have h1 : y = 0 := by simpa using h0
        have := hxy.out
        rw [h1] at this
        simp at this
        omega)
      go_wp2_with fail
      refine (l1Abs_c _ _ (by omega) (by omega)).mono ?_; rintro e w1 ⟨rfl, rfl⟩
      go_wp2_with fail
      go_ret
      exact ⟨retI H.out, rfl⟩
    · have h1 : y ≠ 0 := by simpa using h0
      have hm : (x.tmod y).natAbs < y.natAbs := by rw [Int.natAbs_tmod]; exact Nat.mod_lt _ (by omega)
      have H : Hid (Nat.gcd y.natAbs (x.tmod y).natAbs = g.toNat) := Lib.hid (by rw [gcd_stepI]; exact hxy.out)
      have hb1 : -4000000000000000000 ≤ x.tmod y := by omega
      have hb2 : x.tmod y ≤ 4000000000000000000 := by omega
      go_wp2_with fail
      go_round
      case rel => exact ⟨y, x.tmod y, rfl, rfl, H, by omega, by omega, by omega, by omega⟩
      case measure => simpa [intOf] using hm
/- The test of a fraction -/
theorem isFr_cases {a b : Int} {x y z : Bool} (h1 : (decide (-1000000000 ≤ a) && decide (a ≤ 1000000000)) = x) (h2 : (decide (1 ≤ b) && decide (b ≤ 1000000000)) = y) (h3 : (gcdI a b == 1) = z) : isFr a b = (x && y && z) := by
  rw [isFr, h3, ← h1, ← h2]
  congr 1
  rw [Bool.eq_iff_iff]
  simp [and_assoc]
theorem isFrac_c (a b : Int) (w : World) : Calls Try.prog 35 #[.agg #[.int .i64 a, .int .i64 b]] w fun e w' => e = .returned (.bool (isFr a b)) ∧ Below w.heap.size w w' := by
  cases h1 : (decide (-1000000000 ≤ a) && decide (a ≤ 1000000000)) <;> cases h2 : (decide (1 ≤ b) && decide (b ≤ 1000000000)) <;> cases h3 : (gcdI a b == 1)
  case true.true.false =>
    have H := Lib.hid (isFr_cases h1 h2 h3)
    have ha : -1000000000 ≤ a ∧ a ≤ 1000000000 := by simpa using h1
    have hb : 1 ≤ b ∧ b ≤ 1000000000 := by simpa using h2
    have H1 := Lib.hid h1
    have H2 := Lib.hid h2
    clear h1 h2
    go_enter Try.func35, Try.ntmps35
    go_wp2_with (first
      | (go_at_call 42; refine (within_c _ _ _ _).mono ?_; (first | rw [H1.out] | rw [H2.out]); rintro e w' ⟨rfl, rfl⟩)
      | (go_at_call 49; refine (gcd_c _ _ _ (by omega) (by omega) (by omega) (by omega)).mono ?_; rintro e w' ⟨rfl, hbel⟩))
    go_ret
    exact ⟨by rw [H.out]; rfl, bel_step (bel_new _ _) hbel⟩
  case true.true.true =>
    have H := Lib.hid (isFr_cases h1 h2 h3)
    have ha : -1000000000 ≤ a ∧ a ≤ 1000000000 := by simpa using h1
    have hb : 1 ≤ b ∧ b ≤ 1000000000 := by simpa using h2
    have H1 := Lib.hid h1
    have H2 := Lib.hid h2
    clear h1 h2
    go_enter Try.func35, Try.ntmps35
    go_wp2_with (first
      | (go_at_call 42; refine (within_c _ _ _ _).mono ?_; (first | rw [H1.out] | rw [H2.out]); rintro e w' ⟨rfl, rfl⟩)
      | (go_at_call 49; refine (gcd_c _ _ _ (by omega) (by omega) (by omega) (by omega)).mono ?_; rintro e w' ⟨rfl, hbel⟩))
    go_ret
    exact ⟨by rw [H.out]; rfl, bel_step (bel_new _ _) hbel⟩
  all_goals
    have H := Lib.hid (isFr_cases h1 h2 h3)
    have H1 := Lib.hid h1
    have H2 := Lib.hid h2
    clear h1 h2 h3
    go_enter Try.func35, Try.ntmps35
    go_wp2_with (go_at_call 42; refine (within_c _ _ _ _).mono ?_; (first | rw [H1.out] | rw [H2.out]); rintro e w' ⟨rfl, rfl⟩)
    go_ret
    exact ⟨by rw [H.out]; rfl, bel_new _ _⟩
theorem frGood_c (a b : Int) (w : World) : Calls Try.prog 29 #[.agg #[.int .i64 a, .int .i64 b]] w fun e w' => e = .returned (.bool (isFr a b)) ∧ Below w.heap.size w w' := by
  cases h1 : (decide (-1000000000 ≤ a) && decide (a ≤ 1000000000)) <;> cases h2 : (decide (1 ≤ b) && decide (b ≤ 1000000000)) <;> cases h3 : (gcdI a b == 1)
  case true.true.false =>
    have H := Lib.hid (isFr_cases h1 h2 h3)
    have ha : -1000000000 ≤ a ∧ a ≤ 1000000000 := by simpa using h1
    have hb : 1 ≤ b ∧ b ≤ 1000000000 := by simpa using h2
    have H1 := Lib.hid h1
    have H2 := Lib.hid h2
    clear h1 h2
    go_enter Try.func29, Try.ntmps29
    go_wp2_with (first
      | (go_at_call 39; refine (l1In_c _ _ _ _).mono ?_; (first | rw [H1.out] | rw [H2.out]); rintro e w' ⟨rfl, rfl⟩)
      | (go_at_call 46; refine (frGcd_c _ _ _ (by omega) (by omega) (by omega) (by omega)).mono ?_; rintro e w' ⟨rfl, rfl⟩))
    go_ret
    exact ⟨by rw [H.out]; rfl, bel_new _ _⟩
  case true.true.true =>
    have H := Lib.hid (isFr_cases h1 h2 h3)
    have ha : -1000000000 ≤ a ∧ a ≤ 1000000000 := by simpa using h1
    have hb : 1 ≤ b ∧ b ≤ 1000000000 := by simpa using h2
    have H1 := Lib.hid h1
    have H2 := Lib.hid h2
    clear h1 h2
    go_enter Try.func29, Try.ntmps29
    go_wp2_with (first
      | (go_at_call 39; refine (l1In_c _ _ _ _).mono ?_; (first | rw [H1.out] | rw [H2.out]); rintro e w' ⟨rfl, rfl⟩)
      | (go_at_call 46; refine (frGcd_c _ _ _ (by omega) (by omega) (by omega) (by omega)).mono ?_; rintro e w' ⟨rfl, rfl⟩))
    go_ret
    exact ⟨by rw [H.out]; rfl, bel_new _ _⟩
  all_goals
    have H := Lib.hid (isFr_cases h1 h2 h3)
    have H1 := Lib.hid h1
    have H2 := Lib.hid h2
    clear h1 h2 h3
    go_enter Try.func29, Try.ntmps29
    go_wp2_with (go_at_call 39; refine (l1In_c _ _ _ _).mono ?_; (first | rw [H1.out] | rw [H2.out]); rintro e w' ⟨rfl, rfl⟩)
    go_ret
    exact ⟨by rw [H.out]; rfl, bel_new _ _⟩
/- Lowest terms -/
theorem sgcd_neg {n d : Int} (h : d < 0) : sgcd n d = -gcdI n d := by rw [sgcd, if_pos h]
theorem sgcd_pos {n d : Int} (h : ¬ d < 0) : sgcd n d = gcdI n d := by rw [sgcd, if_neg h]
theorem low_neg {n d : Int} (h : d < 0) : lowN n d = -(n.tdiv (gcdI n d)) ∧ lowD n d = -(d.tdiv (gcdI n d)) := by rw [lowN, lowD, sgcd_neg h, Int.tdiv_neg, Int.tdiv_neg]; exact ⟨rfl, rfl⟩
theorem low_pos {n d : Int} (h : ¬ d < 0) : lowN n d = n.tdiv (gcdI n d) ∧ lowD n d = d.tdiv (gcdI n d) := by rw [lowN, lowD, sgcd_pos h]; exact ⟨rfl, rfl⟩
theorem lowest_c (n d : Int) (w : World) (hd : d ≠ 0) (hn : -4000000000000000000 ≤ n) (hn' : n ≤ 4000000000000000000) (hd1 : -4000000000000000000 ≤ d) (hd2 : d ≤ 4000000000000000000) :
    Calls Try.prog 45 #[.int .i64 n, .int .i64 d] w fun e w' => e = .returned (.agg #[.int .i64 (lowN n d), .int .i64 (lowD n d)]) ∧ Below w.heap.size w w' := by
  have g1 := gcdI_pos (a := n) hd
  have g2 := gcdI_le (a := n) hd
  have t1 := tdiv_bd (x := n) (show gcdI n d ≠ 0 by omega) hn hn'
  have t2 := tdiv_bd (x := d) (show gcdI n d ≠ 0 by omega) hd1 hd2
  by_cases hneg : d < 0
  · have H1 : Hid (lowN n d = -(n.tdiv (gcdI n d))) := Lib.hid (by rw [lowN, sgcd_neg hneg, Int.tdiv_neg])
    have H2 : Hid (lowD n d = -(d.tdiv (gcdI n d))) := Lib.hid (by rw [lowD, sgcd_neg hneg, Int.tdiv_neg])
    go_enter Try.func45, Try.ntmps45
    go_wp2_with fail
    refine (gcd_c _ _ _ hn hn' hd1 hd2).mono ?_; rintro e w1 ⟨rfl, hb⟩
    have P := (Bx.new w [.int .i64 0, .int .i64 0] 33).go hb
    have bel := bel_step (bel_new _ _) hb
    generalize gcdI n d = g at *
    have hc0 := P.at0
    have hc1 := P.at1
    have hf0 := P.fz 0
    have hf1 := P.fz 1
    go_wp2_with fail
    go_region
    go_wp2_with fail
    refine bodyPost_ret (v := .agg #[.int .i64 (-n.tdiv g), .int .i64 (-d.tdiv g)]) (by simp [results, Try.results45, go_sem, *]) rfl ⟨by rw [H1.out, H2.out], ?_⟩
    repeat (first | exact bel | refine Below.drew ?_ | refine bel_set ?_ (by first | exact Nat.le_refl _ | simp) _ | refine bel_alloc ?_ _)
  · have H1 : Hid (lowN n d = n.tdiv (gcdI n d)) := Lib.hid (by rw [lowN, sgcd_pos hneg])
    have H2 : Hid (lowD n d = d.tdiv (gcdI n d)) := Lib.hid (by rw [lowD, sgcd_pos hneg])
    go_enter Try.func45, Try.ntmps45
    go_wp2_with fail
    refine (gcd_c _ _ _ hn hn' hd1 hd2).mono ?_; rintro e w1 ⟨rfl, hb⟩
    have P := (Bx.new w [.int .i64 0, .int .i64 0] 33).go hb
    have bel := bel_step (bel_new _ _) hb
    generalize gcdI n d = g at *
    have hc0 := P.at0
    have hc1 := P.at1
    have hf0 := P.fz 0
    have hf1 := P.fz 1
    go_wp2_with fail
    go_region
    go_wp2_with fail
    refine bodyPost_ret (v := .agg #[.int .i64 (n.tdiv g), .int .i64 (d.tdiv g)]) (by simp [results, Try.results45, go_sem, *]) rfl ⟨by rw [H1.out, H2.out], ?_⟩
    repeat (first | exact bel | refine Below.drew ?_ | refine bel_set ?_ (by first | exact Nat.le_refl _ | simp) _ | refine bel_alloc ?_ _)
theorem toldFrac_c (a b : Int) (w : World) : Calls Try.prog 51 #[.agg #[.int .i64 a, .int .i64 b]] w fun e w' =>
    e = .returned (.tuple #[.agg #[.int .i64 (okN a b), .int .i64 (okD a b)], .bool (isFr a b)]) ∧ Below w.heap.size w w' := by
  cases h : isFr a b
  all_goals
    have H := Lib.hid h
    have HN : Hid (okN a b = if isFr a b then a else 0) := Lib.hid rfl
    have HD : Hid (okD a b = if isFr a b then b else 0) := Lib.hid rfl
    rw [h] at HN HD
    clear h
    go_enter Try.func51, Try.ntmps51
    go_wp2_with fail
    refine (isFrac_c _ _ _).mono ?_; rw [H.out]; rintro e w1 ⟨rfl, hb⟩
    have X := bx2 w [.int .i64 a, .int .i64 b] [.int .i64 0, .int .i64 0] 33 33
    have P := X.1.go hb
    have R := X.2.go hb
    clear X
    have bel := bel_step (bel_alloc (bel_new _ _) _) hb
    have hc0 := P.at0
    have hc1 := P.at1
    have hr0 := R.at0
    have hr1 := R.at1
    have hf0 := R.fz 0
    have hf1 := R.fz 1
    go_wp2_with fail
  · refine bodyPost_ret (v := .tuple #[.agg #[.int .i64 0, .int .i64 0], .bool false]) (by simp [results, Try.results51, go_sem, *]) rfl ⟨?_, ?_⟩
    · rw [HN.out, HD.out]; rfl
    · (repeat (first | exact bel | refine Below.drew ?_ | refine bel_set ?_ (by first | exact Nat.le_refl _ | (dsimp only; omega) | omega) _ | refine bel_alloc ?_ _))
  · refine bodyPost_ret (v := .tuple #[.agg #[.int .i64 a, .int .i64 b], .bool true]) (by simp [results, Try.results51, go_sem, *]) rfl ⟨?_, ?_⟩
    · rw [HN.out, HD.out]; rfl
    · (repeat (first | exact bel | refine Below.drew ?_ | refine bel_set ?_ (by first | exact Nat.le_refl _ | (dsimp only; omega) | omega) _ | refine bel_alloc ?_ _))
theorem frMake_c (n d : Int) (w : World) (hn : -4000000000000000000 ≤ n) (hn' : n ≤ 4000000000000000000) (hd1 : -4000000000000000000 ≤ d) (hd2 : d ≤ 4000000000000000000) :
    Calls Try.prog 47 #[.int .i64 n, .int .i64 d] w fun e w' => e = .returned (.tuple #[.agg #[.int .i64 (mkFr n d).1.1, .int .i64 (mkFr n d).1.2], .bool (mkFr n d).2]) ∧ Below w.heap.size w w' := by
  cases hz : (d == 0)
  case true =>
    have H : Hid (mkFr n d = ((0, 0), false)) := Lib.hid (by rw [beq_iff_eq.1 hz]; exact mkFr_zero n)
    go_enter Try.func47, Try.ntmps47
    go_wp2_with fail
    refine bodyPost_ret (v := .tuple #[.agg #[.int .i64 0, .int .i64 0], .bool false]) (by simp [results, Try.results47, go_sem, *]) rfl ⟨?_, ?_⟩
    · rw [H.out]
    · have bel := Below.refl w.heap.size w
      (repeat (first | exact bel | refine Below.drew ?_ | refine bel_set ?_ (by first | exact Nat.le_refl _ | (dsimp only; omega) | omega) _ | refine bel_alloc ?_ _))
  case false =>
    have hd : d ≠ 0 := beq_eq_false_iff_ne.1 hz
    have g1 := gcdI_pos (a := n) hd
    have g2 := gcdI_le (a := n) hd
    have t1 := tdiv_bd (x := n) (show gcdI n d ≠ 0 by omega) hn hn'
    have t2 := tdiv_bd (x := d) (show gcdI n d ≠ 0 by omega) hd1 hd2
    by_cases hneg : d < 0
    · obtain ⟨e1, e2⟩ := low_neg (n := n) hneg
      cases hfr : isFr (lowN n d) (lowD n d)
      · have HM := mkFr_no hd hfr
        rw [e1, e2] at hfr
        try rw [e1, e2] at HM
        have HM := Lib.hid HM
        have HF := Lib.hid hfr
        clear hfr e1 e2
        go_enter Try.func47, Try.ntmps47
        go_wp2_with fail
        refine (frGcd_c _ _ _ hn hn' hd1 hd2).mono ?_; rintro e w1 ⟨rfl, rfl⟩
        generalize gcdI n d = g at *
        go_wp2_with fail
        go_region
        go_wp2_with fail
        refine (frGood_c _ _ _).mono ?_; rw [HF.out]; rintro e w2 ⟨rfl, hb⟩
        have X := bx2 w [.int .i64 0, .int .i64 0] [.int .i64 (-n.tdiv g), .int .i64 (-d.tdiv g)] 33 33
        have R := X.1.drew.go hb
        have P := X.2.drew.go hb
        clear X
        have bel := bel_step (bel_alloc (bel_new _ _) _).drew hb
        have hc0 := P.at0
        have hc1 := P.at1
        have hr0 := R.at0
        have hr1 := R.at1
        have hf0 := R.fz 0
        have hf1 := R.fz 1
        go_wp2_with fail
        refine bodyPost_ret (v := .tuple #[.agg #[.int .i64 0, .int .i64 0], .bool false]) (by simp [results, Try.results47, go_sem, *]) rfl ⟨?_, ?_⟩
        · rw [HM.out]
        · (repeat (first | exact bel | refine Below.drew ?_ | refine bel_set ?_ (by first | exact Nat.le_refl _ | (dsimp only; omega) | omega) _ | refine bel_alloc ?_ _))
      · have HM := mkFr_yes hd hfr
        rw [e1, e2] at hfr
        try rw [e1, e2] at HM
        have HM := Lib.hid HM
        have HF := Lib.hid hfr
        clear hfr e1 e2
        go_enter Try.func47, Try.ntmps47
        go_wp2_with fail
        refine (frGcd_c _ _ _ hn hn' hd1 hd2).mono ?_; rintro e w1 ⟨rfl, rfl⟩
        generalize gcdI n d = g at *
        go_wp2_with fail
        go_region
        go_wp2_with fail
        refine (frGood_c _ _ _).mono ?_; rw [HF.out]; rintro e w2 ⟨rfl, hb⟩
        have X := bx2 w [.int .i64 0, .int .i64 0] [.int .i64 (-n.tdiv g), .int .i64 (-d.tdiv g)] 33 33
        have R := X.1.drew.go hb
        have P := X.2.drew.go hb
        clear X
        have bel := bel_step (bel_alloc (bel_new _ _) _).drew hb
        have hc0 := P.at0
        have hc1 := P.at1
        have hr0 := R.at0
        have hr1 := R.at1
        have hf0 := R.fz 0
        have hf1 := R.fz 1
        go_wp2_with fail
        refine bodyPost_ret (v := .tuple #[.agg #[.int .i64 (-n.tdiv g), .int .i64 (-d.tdiv g)], .bool true]) (by simp [results, Try.results47, go_sem, *]) rfl ⟨?_, ?_⟩
        · rw [HM.out]
        · (repeat (first | exact bel | refine Below.drew ?_ | refine bel_set ?_ (by first | exact Nat.le_refl _ | (dsimp only; omega) | omega) _ | refine bel_alloc ?_ _))
    · obtain ⟨e1, e2⟩ := low_pos (n := n) hneg
      cases hfr : isFr (lowN n d) (lowD n d)
      · have HM := mkFr_no hd hfr
        rw [e1, e2] at hfr
        try rw [e1, e2] at HM
        have HM := Lib.hid HM
        have HF := Lib.hid hfr
        clear hfr e1 e2
        go_enter Try.func47, Try.ntmps47
        go_wp2_with fail
        refine (frGcd_c _ _ _ hn hn' hd1 hd2).mono ?_; rintro e w1 ⟨rfl, rfl⟩
        generalize gcdI n d = g at *
        go_wp2_with fail
        go_region
        go_wp2_with fail
        refine (frGood_c _ _ _).mono ?_; rw [HF.out]; rintro e w2 ⟨rfl, hb⟩
        have X := bx2 w [.int .i64 0, .int .i64 0] [.int .i64 (n.tdiv g), .int .i64 (d.tdiv g)] 33 33
        have R := X.1.drew.go hb
        have P := X.2.drew.go hb
        clear X
        have bel := bel_step (bel_alloc (bel_new _ _) _).drew hb
        have hc0 := P.at0
        have hc1 := P.at1
        have hr0 := R.at0
        have hr1 := R.at1
        have hf0 := R.fz 0
        have hf1 := R.fz 1
        go_wp2_with fail
        refine bodyPost_ret (v := .tuple #[.agg #[.int .i64 0, .int .i64 0], .bool false]) (by simp [results, Try.results47, go_sem, *]) rfl ⟨?_, ?_⟩
        · rw [HM.out]
        · (repeat (first | exact bel | refine Below.drew ?_ | refine bel_set ?_ (by first | exact Nat.le_refl _ | (dsimp only; omega) | omega) _ | refine bel_alloc ?_ _))
      · have HM := mkFr_yes hd hfr
        rw [e1, e2] at hfr
        try rw [e1, e2] at HM
        have HM := Lib.hid HM
        have HF := Lib.hid hfr
        clear hfr e1 e2
        go_enter Try.func47, Try.ntmps47
        go_wp2_with fail
        refine (frGcd_c _ _ _ hn hn' hd1 hd2).mono ?_; rintro e w1 ⟨rfl, rfl⟩
        generalize gcdI n d = g at *
        go_wp2_with fail
        go_region
        go_wp2_with fail
        refine (frGood_c _ _ _).mono ?_; rw [HF.out]; rintro e w2 ⟨rfl, hb⟩
        have X := bx2 w [.int .i64 0, .int .i64 0] [.int .i64 (n.tdiv g), .int .i64 (d.tdiv g)] 33 33
        have R := X.1.drew.go hb
        have P := X.2.drew.go hb
        clear X
        have bel := bel_step (bel_alloc (bel_new _ _) _).drew hb
        have hc0 := P.at0
        have hc1 := P.at1
        have hr0 := R.at0
        have hr1 := R.at1
        have hf0 := R.fz 0
        have hf1 := R.fz 1
        go_wp2_with fail
        refine bodyPost_ret (v := .tuple #[.agg #[.int .i64 (n.tdiv g), .int .i64 (d.tdiv g)], .bool true]) (by simp [results, Try.results47, go_sem, *]) rfl ⟨?_, ?_⟩
        · rw [HM.out]
        · (repeat (first | exact bel | refine Below.drew ?_ | refine bel_set ?_ (by first | exact Nat.le_refl _ | (dsimp only; omega) | omega) _ | refine bel_alloc ?_ _))
theorem areFracs_c (k : Nat) (a b c d : Int) (w : World) (P : Bx w k [.int .i64 a, .int .i64 b, .int .i64 c, .int .i64 d]) :
    Calls Try.prog 50 #[.slice (some ⟨k, 0, none⟩) 2 2] w fun e w' => e = .returned (.bool (twoFr a b c d)) ∧ Below w.heap.size w w' := by
  cases h : isFr a b
  case false =>
    have HT : Hid (twoFr a b c d = false) := Lib.hid (by rw [twoFr, h]; rfl)
    have H := Lib.hid h
    clear h
    have hc0 := P.at0
    have hc1 := P.at1
    go_enter Try.func50, Try.ntmps50
    go_wp2_with fail
    refine wp_loop_rounds 3 ?_
    rw [rounds_succ]
    go_wp2_with fail
    refine (isFrac_c _ _ _).mono ?_; rw [H.out]; rintro e w1 ⟨rfl, hb⟩
    have bel := bel_step (bel_new _ _) hb
    go_wp2_with fail
    go_ret
    exact ⟨by rw [HT.out]; rfl, bel⟩
  case true =>
    cases h2 : isFr c d
    all_goals
      have HT := Lib.hid (show twoFr a b c d = _ by rw [twoFr, h, h2])
      have H := Lib.hid h
      have H2 := Lib.hid h2
      clear h h2
      have hc0 := P.at0
      have hc1 := P.at1
      go_enter Try.func50, Try.ntmps50
      go_wp2_with fail
      refine wp_loop_rounds 3 ?_
      rw [rounds_succ]
      go_wp2_with fail
      refine (isFrac_c _ _ _).mono ?_; rw [H.out]; rintro e w1 ⟨rfl, hb⟩
      have bel := bel_step (bel_new _ _) hb
      have P := (P.alloc _).go hb
      have hd0 := P.at2
      have hd1 := P.at3
      go_wp2_with fail
      rw [rounds_succ]
      go_wp2_with fail
      refine (isFrac_c _ _ _).mono ?_; rw [H2.out]; rintro e w2 ⟨rfl, hb2⟩
      have bel := bel_step (bel_alloc bel _) hb2
      go_wp2_with fail
      try rw [rounds_succ]
      try go_wp2_with fail
      go_ret
      exact ⟨by rw [HT.out]; rfl, bel⟩
end Go.Proofs.Ytfmlclciijlpkaa
