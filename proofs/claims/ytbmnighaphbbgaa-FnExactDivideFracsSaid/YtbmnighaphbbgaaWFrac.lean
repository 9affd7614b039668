/- The laws on fractions: the walk of each law. -/
import Derived.Test.YtbmnighaphbbgaaFrac3
import Derived.Deep.RegionHeld3
namespace Go.Proofs.Ytbmnighaphbbgaa
open Go.RowKit
theorem toFrac_c (x y : Int) (w : World) : Calls Try.prog 15 #[.agg #[.int .i64 x, .int .i64 y]] w fun e w' => e = .returned (.agg #[.int .i64 x, .int .i64 y]) ∧ Below w.heap.size w w' := by
  go_enter Try.func15, Try.ntmps15
  go_wp2
  exact bodyPost_ret (v := .agg #[.int .i64 x, .int .i64 y]) (by simp [results, Try.results15, go_sem]) rfl ⟨rfl, bel_alloc (bel_alloc (bel_new _ _) _) _⟩
theorem eqFrac_c (x y : Int) (w : World) : Calls Try.prog 25 #[.agg #[.int .i64 x, .int .i64 y], .agg #[.int .i64 x, .int .i64 y]] w fun e w' => e = .returned (.bool true) ∧ Below w.heap.size w w' := by
  go_enter Try.func25, Try.ntmps25
  go_wp2
  go_ret
  exact ⟨rfl, bel_alloc (bel_new _ _) _⟩
theorem walk_FnExactIsFrac (a0 b0 : Int) (w : World) (w0 : (Lit.int .i64 a0).wf = true) (x0 : (Lit.int .i64 b0).wf = true) :
  Calls Try.prog 3 #[.agg #[.int .i64 a0, .int .i64 b0]] w fun e w' => e = .returned (.bool true) ∧ Below w.heap.size w w' := by
  have _w := w0
  have _w := x0
  go_enter Try.func3, Try.ntmps3
  go_wp2_with fail
  refine (toFrac_c _ _ _).mono ?_; rintro e u1 ⟨rfl, hb1⟩
  have bel := bel_step (bel_new _ _) hb1
  have P := (Bx.new w [.int .i64 a0, .int .i64 b0] 23).go hb1
  go_wp2_with fail
  refine (specIsFrac_c _ _ _).mono ?_; rintro e u2 ⟨rfl, hb2⟩
  have bel := bel_step bel hb2
  have P := P.go hb2
  have p0 := P.at0
  have p1 := P.at1
  go_wp2_with fail
  refine (toFrac_c _ _ _).mono ?_; rintro e u3 ⟨rfl, hb3⟩
  have bel := bel_step bel hb3
  go_wp2_with fail
  refine (implIsFrac_c _ _ _).mono ?_; rintro e u4 ⟨rfl, hb4⟩
  have bel := bel_step bel hb4
  go_wp2_with fail
  go_ret
  exact ⟨rfl, bel⟩
theorem walk_FnExactFloorFrac (a0 b0 : Int) (w : World) (w0 : (Lit.int .i64 a0).wf = true) (x0 : (Lit.int .i64 b0).wf = true) :
  Calls Try.prog 4 #[.agg #[.int .i64 a0, .int .i64 b0]] w fun e w' => e = .returned (.bool true) ∧ Below w.heap.size w w' := by
  have _w := w0
  have _w := x0
  go_enter Try.func4, Try.ntmps4
  go_wp2_with fail
  refine (toFrac_c _ _ _).mono ?_; rintro e u1 ⟨rfl, hb1⟩
  have bel := bel_step (bel_new _ _) hb1
  have P := (Bx.new w [.int .i64 a0, .int .i64 b0] 23).go hb1
  go_wp2_with fail
  refine (specFloorFrac_c _ _ _).mono ?_; rintro e u2 ⟨rfl, hb2⟩
  have bel := bel_step bel hb2
  have P := P.go hb2
  have p0 := P.at0
  have p1 := P.at1
  go_wp2_with fail
  refine (toFrac_c _ _ _).mono ?_; rintro e u3 ⟨rfl, hb3⟩
  have bel := bel_step bel hb3
  go_wp2_with fail
  refine (implFloorFrac_c _ _ _).mono ?_; rintro e u4 ⟨rfl, hb4⟩
  have bel := bel_step bel hb4
  go_wp2_with fail
  go_ret
  exact ⟨rfl, bel⟩
theorem walk_FnExactCeilFrac (a0 b0 : Int) (w : World) (w0 : (Lit.int .i64 a0).wf = true) (x0 : (Lit.int .i64 b0).wf = true) :
  Calls Try.prog 5 #[.agg #[.int .i64 a0, .int .i64 b0]] w fun e w' => e = .returned (.bool true) ∧ Below w.heap.size w w' := by
  have _w := w0
  have _w := x0
  go_enter Try.func5, Try.ntmps5
  go_wp2_with fail
  refine (toFrac_c _ _ _).mono ?_; rintro e u1 ⟨rfl, hb1⟩
  have bel := bel_step (bel_new _ _) hb1
  have P := (Bx.new w [.int .i64 a0, .int .i64 b0] 23).go hb1
  go_wp2_with fail
  refine (specCeilFrac_c _ _ _).mono ?_; rintro e u2 ⟨rfl, hb2⟩
  have bel := bel_step bel hb2
  have P := P.go hb2
  have p0 := P.at0
  have p1 := P.at1
  go_wp2_with fail
  refine (toFrac_c _ _ _).mono ?_; rintro e u3 ⟨rfl, hb3⟩
  have bel := bel_step bel hb3
  go_wp2_with fail
  refine (implCeilFrac_c _ _ _).mono ?_; rintro e u4 ⟨rfl, hb4⟩
  have bel := bel_step bel hb4
  go_wp2_with fail
  go_ret
  exact ⟨rfl, bel⟩
theorem walk_FnExactFracOf (a0 : Int) (a1 : Int) (w : World) (w0 : (Lit.int .i64 a0).wf = true) (w1 : (Lit.int .i64 a1).wf = true) :
  Calls Try.prog 7 #[.int .i64 a0, .int .i64 a1] w fun e w' => e = .returned (.bool true) ∧ Below w.heap.size w w' := by
  have _w := w0
  have _w := w1
  go_enter Try.func7, Try.ntmps7
  go_wp2_with fail
  refine (specFracOf_c _ _ _).mono ?_; rintro e u1 ⟨rfl, hb1⟩
  have P := Bx.new u1 [.int .i64 (pFracOf a0 a1).1.1, .int .i64 (pFracOf a0 a1).1.2] 25
  go_wp2_with fail
  refine (implFracOf_c _ _ _).mono ?_; rintro e u2 ⟨rfl, hb2⟩
  have bel := bel_step (bel_alloc hb1 _) hb2
  have P := (P.go hb2).alloc (.cells #[.int .i64 (pFracOf a0 a1).1.1, .int .i64 (pFracOf a0 a1).1.2] 25)
  have p0 := P.at0
  have p1 := P.at1
  go_wp2_with fail
  refine (eqFrac_c _ _ _).mono ?_; rintro e u3 ⟨rfl, hb3⟩
  have bel := bel_step (bel_alloc bel _) hb3
  go_wp2_with fail
  go_ret
  exact ⟨rfl, bel⟩
theorem walk_FnExactCompareFracs (a0 b0 : Int) (a1 b1 : Int) (w : World) (w0 : (Lit.int .i64 a0).wf = true) (x0 : (Lit.int .i64 b0).wf = true) (w1 : (Lit.int .i64 a1).wf = true) (x1 : (Lit.int .i64 b1).wf = true) :
  Calls Try.prog 6 #[.agg #[.int .i64 a0, .int .i64 b0], .agg #[.int .i64 a1, .int .i64 b1]] w fun e w' => e = .returned (.bool true) ∧ Below w.heap.size w w' := by
  have _w := w0
  have _w := x0
  have _w := w1
  have _w := x1
  have bel := (bel_alloc (bel_new w (.cells #[.int .i64 a0, .int .i64 b0] 23)) (.cells #[.int .i64 a1, .int .i64 b1] 23)).drew
  have X := bx2 w [.int .i64 a0, .int .i64 b0] [.int .i64 a1, .int .i64 b1] 23 23
  have P := X.1.drew
  have Q := X.2.drew
  clear X
  go_enter Try.func6, Try.ntmps6
  go_wp2_with fail
  go_region_held3 (fun w' => w'.cell? ⟨w.heap.size, 0, none⟩ = some (.int .i64 a0) ∧ w'.cell? ⟨w.heap.size, 1, none⟩ = some (.int .i64 b0) ∧ w'.cell? ⟨w.heap.size + 1, 0, none⟩ = some (.int .i64 a1) ∧ w'.cell? ⟨w.heap.size + 1, 1, none⟩ = some (.int .i64 b1)) (first | exact ⟨P.at0, P.at1, Q.at0, Q.at1⟩ | go_keep)
    (first
    | (go_at_call 15; refine (toFrac_c _ _ _).mono ?_; rintro e u1 ⟨rfl, hb1⟩; have bel := bel_step bel hb1; have P := P.go hb1; have Q := Q.go hb1)
    | (go_at_call 21; refine (specCompareFracs_c _ _ _ _ _).mono ?_; rintro e u1 ⟨rfl, hb1⟩; have bel := bel_step bel hb1; have P := P.go hb1; have Q := Q.go hb1))
  have bel := bel.drew
  have P := P.drew
  have Q := Q.drew
  go_wp2_with fail
  go_region_held3 (fun w' => w'.cell? ⟨w.heap.size, 0, none⟩ = some (.int .i64 a0) ∧ w'.cell? ⟨w.heap.size, 1, none⟩ = some (.int .i64 b0) ∧ w'.cell? ⟨w.heap.size + 1, 0, none⟩ = some (.int .i64 a1) ∧ w'.cell? ⟨w.heap.size + 1, 1, none⟩ = some (.int .i64 b1)) (first | exact ⟨P.at0, P.at1, Q.at0, Q.at1⟩ | go_keep)
    (first
    | (go_at_call 15; refine (toFrac_c _ _ _).mono ?_; rintro e u1 ⟨rfl, hb1⟩; have bel := bel_step bel hb1; have P := P.go hb1; have Q := Q.go hb1)
    | (go_at_call 22; refine (implCompareFracs_c _ _ _ _ _).mono ?_; rintro e u1 ⟨rfl, hb1⟩; have bel := bel_step bel hb1; have P := P.go hb1; have Q := Q.go hb1))
  go_wp2_with fail
  go_ret
  exact ⟨rfl, bel⟩
end Go.Proofs.Ytbmnighaphbbgaa
