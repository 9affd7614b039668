/- The law on a single point: both packages' functions, and the walk of the law. -/
import Derived.Test.YtmpeniplngfndaaNum
namespace Go.Proofs.Ytmpeniplngfndaa
open Go.RowKit
def isPt (x y : Int) : Bool := (decide (-100 ≤ x) && decide (x ≤ 100)) && (decide (-100 ≤ y) && decide (y ≤ 100))
theorem isPt_iff (x y : Int) : isPt x y = true ↔ -100 ≤ x ∧ x ≤ 100 ∧ -100 ≤ y ∧ y ≤ 100 := by simp [isPt, and_assoc]
theorem isPoint_c (x y : Int) (w : World) : Calls Try.prog 45 #[.agg #[.int .i64 x, .int .i64 y]] w fun e w' => e = .returned (.bool (isPt x y)) ∧ Below w.heap.size w w' := by
  cases h1 : (decide (-100 ≤ x) && decide (x ≤ 100)) <;> cases h2 : (decide (-100 ≤ y) && decide (y ≤ 100))
  all_goals
    have H : Hid (isPt x y = ((decide (-100 ≤ x) && decide (x ≤ 100)) && (decide (-100 ≤ y) && decide (y ≤ 100)))) := Lib.hid rfl
    rw [h1, h2] at H
    have H1 := Lib.hid h1
    have H2 := Lib.hid h2
    clear h1 h2
    go_enter Try.func45, Try.ntmps45
    go_wp2_with (go_at_call 50; refine (within_c _ _ _ _).mono ?_; (first | rw [H1.out] | rw [H2.out]); rintro e w' ⟨rfl, rfl⟩)
    go_ret
    exact ⟨by rw [H.out]; rfl, bel_new _ _⟩
theorem pyOne_c (x y : Int) (w : World) : Calls Try.prog 44 #[.agg #[.int .i64 x, .int .i64 y]] w fun e w' => e = .returned (.bool (isPt x y)) ∧ Below w.heap.size w w' := by
  cases h1 : (decide (-100 ≤ x) && decide (x ≤ 100)) <;> cases h2 : (decide (-100 ≤ y) && decide (y ≤ 100))
  all_goals
    have H : Hid (isPt x y = ((decide (-100 ≤ x) && decide (x ≤ 100)) && (decide (-100 ≤ y) && decide (y ≤ 100)))) := Lib.hid rfl
    rw [h1, h2] at H
    have H1 := Lib.hid h1
    have H2 := Lib.hid h2
    clear h1 h2
    go_enter Try.func44, Try.ntmps44
    go_wp2_with (go_at_call 48; refine (l1In_c _ _ _ _).mono ?_; (first | rw [H1.out] | rw [H2.out]); rintro e w' ⟨rfl, rfl⟩)
    go_ret
    exact ⟨by rw [H.out]; rfl, bel_new _ _⟩
theorem toPoint_c (x y : Int) (w : World) : Calls Try.prog 18 #[.agg #[.int .i64 x, .int .i64 y]] w fun e w' => e = .returned (.agg #[.int .i64 x, .int .i64 y]) ∧ Below w.heap.size w w' := by
  go_enter Try.func18, Try.ntmps18
  go_wp2
  exact bodyPost_ret (v := .agg #[.int .i64 x, .int .i64 y]) (by simp [results, Try.results18, go_sem]) rfl ⟨rfl, bel_alloc (bel_alloc (bel_new _ _) _) _⟩
theorem specIsPoint_c (x y : Int) (w : World) : Calls Try.prog 17 #[.agg #[.int .i64 x, .int .i64 y]] w fun e w' => e = .returned (.bool (isPt x y)) ∧ Below w.heap.size w w' := by
  go_enter Try.func17, Try.ntmps17
  go_wp2_with (go_at_call 44; refine (pyOne_c _ _ _).mono ?_; rintro e w' ⟨rfl, hb⟩)
  go_ret
  exact ⟨rfl, bel_step (bel_new _ _) hb⟩
theorem implIsPoint_c (x y : Int) (w : World) : Calls Try.prog 19 #[.agg #[.int .i64 x, .int .i64 y]] w fun e w' => e = .returned (.bool (isPt x y)) ∧ Below w.heap.size w w' := by
  go_enter Try.func19, Try.ntmps19
  go_wp2_with (go_at_call 45; refine (isPoint_c _ _ _).mono ?_; rintro e w' ⟨rfl, hb⟩)
  go_ret
  exact ⟨rfl, bel_step (bel_new _ _) hb⟩
theorem walk_FnExactIsPoint (a0 b0 : Int) (w : World) (w0 : (Lit.int .i64 a0).wf = true) (x0 : (Lit.int .i64 b0).wf = true) :
  Calls Try.prog 5 #[.agg #[.int .i64 a0, .int .i64 b0]] w fun e w' => e = .returned (.bool true) ∧ Below w.heap.size w w' := by
  have _w := w0
  have _w := x0
  go_enter Try.func5, Try.ntmps5
  go_wp2_with fail
  refine (toPoint_c _ _ _).mono ?_; rintro e u1 ⟨rfl, hb1⟩
  have bel := bel_step (bel_new _ _) hb1
  have P := (Bx.new w [.int .i64 a0, .int .i64 b0] 25).go hb1
  go_wp2_with fail
  refine (specIsPoint_c _ _ _).mono ?_; rintro e u2 ⟨rfl, hb2⟩
  have bel := bel_step bel hb2
  have P := P.go hb2
  have p0 := P.at0
  have p1 := P.at1
  go_wp2_with fail
  refine (toPoint_c _ _ _).mono ?_; rintro e u3 ⟨rfl, hb3⟩
  have bel := bel_step bel hb3
  go_wp2_with fail
  refine (implIsPoint_c _ _ _).mono ?_; rintro e u4 ⟨rfl, hb4⟩
  have bel := bel_step bel hb4
  go_wp2_with fail
  go_ret
  exact ⟨rfl, bel⟩
end Go.Proofs.Ytmpeniplngfndaa
