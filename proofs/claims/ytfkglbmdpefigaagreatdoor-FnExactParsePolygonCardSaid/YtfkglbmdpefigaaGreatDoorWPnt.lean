/- The walks of the small functions on points (both packages), each against its plain function. -/
import Derived.Test.YtfkglbmdpefigaaGreatDoorPurePts
import Derived.Test.YtfkglbmdpefigaaGreatDoorWPt
import Derived.StillTailTactics
import Derived.Deep.RegionHeld3
namespace Go.Proofs.YtfkglbmdpefigaaGreatDoor
open Go.RowKit
theorem mulBd {x y A B : Int} (hx : -A ≤ x) (hx' : x ≤ A) (hy : -B ≤ y) (hy' : y ≤ B) : -(A * B) ≤ x * y ∧ x * y ≤ A * B := by
  have h1 : (x * y).natAbs ≤ A.natAbs * B.natAbs := by
    rw [Int.natAbs_mul]
    exact Nat.mul_le_mul (by omega) (by omega)
  have h2 : ((A.natAbs * B.natAbs : Nat) : Int) = A * B := by
    rw [Int.natCast_mul, Int.natAbs_of_nonneg (by omega), Int.natAbs_of_nonneg (by omega)]
  omega
theorem gen_worldP {C : World → Prop} {W : World} (S : World → Prop) (hS : S W) (h : ∀ u, S u → C u) : C W := h W hS
theorem isPt_ok (x y : Int) : isPt x y = okPt (x, y) := rfl
theorem turn_eq (a0 a1 b0 b1 p0 p1 : Int) : turnP (a0, a1) (b0, b1) (p0, p1) = (b0 - a0) * (p1 - a1) - (b1 - a1) * (p0 - a0) := rfl
theorem pyTurn_c (a0 a1 b0 b1 p0 p1 : Int) (w : World) (h1 : bdP (a0, a1)) (h2 : bdP (b0, b1)) (h3 : bdP (p0, p1)) :
    Calls Tryz.prog 52 #[.agg #[.int .i64 a0, .int .i64 a1], .agg #[.int .i64 b0, .int .i64 b1], .agg #[.int .i64 p0, .int .i64 p1]] w fun e w' => e = .returned (.int .i64 (turnP (a0, a1) (b0, b1) (p0, p1))) ∧ Below w.heap.size w w' := by
  obtain ⟨⟨a2, a3⟩, a4, a5⟩ := h1
  obtain ⟨⟨b2, b3⟩, b4, b5⟩ := h2
  obtain ⟨⟨p2, p3⟩, p4, p5⟩ := h3
  dsimp only at *
  have H := Lib.hid (turn_eq a0 a1 b0 b1 p0 p1)
  have m1 := mulBd (x := b0 - a0) (y := p1 - a1) (A := 2000) (B := 2000) (by omega) (by omega) (by omega) (by omega)
  have m2 := mulBd (x := b1 - a1) (y := p0 - a0) (A := 2000) (B := 2000) (by omega) (by omega) (by omega) (by omega)
  have w1 : IntKind.i64.wrap ((b0 - a0) * (p1 - a1)) = (b0 - a0) * (p1 - a1) := IntWalk.i64_in _ (by omega)
  have w2 : IntKind.i64.wrap ((b1 - a1) * (p0 - a0)) = (b1 - a1) * (p0 - a0) := IntWalk.i64_in _ (by omega)
  have w3 : IntKind.i64.wrap ((b0 - a0) * (p1 - a1) - (b1 - a1) * (p0 - a0)) = (b0 - a0) * (p1 - a1) - (b1 - a1) * (p0 - a0) := IntWalk.i64_in _ (by omega)
  go_enter Tryz.func52, Tryz.ntmps52
  go_wp2
  go_ret
  exact ⟨retI H.out.symm, bel_alloc (bel_alloc (bel_new _ _) _) _⟩
theorem pyBefore_c (a0 a1 b0 b1 : Int) (w : World) :
    Calls Tryz.prog 51 #[.agg #[.int .i64 a0, .int .i64 a1], .agg #[.int .i64 b0, .int .i64 b1]] w fun e w' => e = .returned (.bool (decide (ltP (a0, a1) (b0, b1)))) ∧ Below w.heap.size w w' := by
  have H : Hid (decide (ltP (a0, a1) (b0, b1)) = (decide (a0 < b0) || (decide (a0 = b0) && decide (a1 < b1)))) := Lib.hid (by
    rw [Bool.eq_iff_iff]; simp [ltP, Pos, sub2]; omega)
  by_cases h0 : a0 < b0
  · go_enter Tryz.func51, Tryz.ntmps51
    go_wp2
    go_ret
    exact ⟨retB (by rw [H.out]; simp [h0]), bel_alloc (bel_new _ _) _⟩
  · by_cases h1 : a0 = b0
    · subst h1
      by_cases h2 : a1 < b1
      all_goals
        go_enter Tryz.func51, Tryz.ntmps51
        go_wp2
        go_ret
        exact ⟨retB (by rw [H.out]; simp [h2]), bel_alloc (bel_new _ _) _⟩
    · go_enter Tryz.func51, Tryz.ntmps51
      go_wp2
      go_ret
      exact ⟨retB (by rw [H.out]; simp [h0, h1]), bel_alloc (bel_new _ _) _⟩
theorem minus_c (a0 a1 b0 b1 : Int) (w : World) (h1 : bdP (a0, a1)) (h2 : bdP (b0, b1)) :
    Calls Tryz.prog 88 #[.agg #[.int .i64 a0, .int .i64 a1], .agg #[.int .i64 b0, .int .i64 b1]] w fun e w' => e = .returned (.agg #[.int .i64 (a0 - b0), .int .i64 (a1 - b1)]) ∧ Below w.heap.size w w' := by
  obtain ⟨⟨a2, a3⟩, a4, a5⟩ := h1
  obtain ⟨⟨b2, b3⟩, b4, b5⟩ := h2
  dsimp only at *
  go_enter Tryz.func88, Tryz.ntmps88
  go_wp2
  refine bodyPost_ret (v := .agg #[.int .i64 (a0 - b0), .int .i64 (a1 - b1)]) (by simp [results, Tryz.results88, go_sem]) rfl ⟨rfl, ?_⟩
  have bel : Below w.heap.size w w := Below.refl _ _
  (repeat (first | exact bel | refine Below.drew ?_ | refine bel_set ?_ (by first | exact Nat.le_refl _ | (dsimp only; omega) | omega) _ | refine bel_alloc ?_ _))
theorem cross_c (p0 p1 q0 q1 : Int) (w : World) (h1 : -2000 ≤ p0 ∧ p0 ≤ 2000) (h2 : -2000 ≤ p1 ∧ p1 ≤ 2000) (h3 : -2000 ≤ q0 ∧ q0 ≤ 2000) (h4 : -2000 ≤ q1 ∧ q1 ≤ 2000) :
    Calls Tryz.prog 87 #[.agg #[.int .i64 p0, .int .i64 p1], .agg #[.int .i64 q0, .int .i64 q1]] w fun e w' => e = .returned (.int .i64 (p0 * q1 - p1 * q0)) ∧ Below w.heap.size w w' := by
  have m1 := mulBd (x := p0) (y := q1) (A := 2000) (B := 2000) (by omega) (by omega) (by omega) (by omega)
  have m2 := mulBd (x := p1) (y := q0) (A := 2000) (B := 2000) (by omega) (by omega) (by omega) (by omega)
  have w1 : IntKind.i64.wrap (p0 * q1) = p0 * q1 := IntWalk.i64_in _ (by omega)
  have w2 : IntKind.i64.wrap (p1 * q0) = p1 * q0 := IntWalk.i64_in _ (by omega)
  have w3 : IntKind.i64.wrap (p0 * q1 - p1 * q0) = p0 * q1 - p1 * q0 := IntWalk.i64_in _ (by omega)
  go_enter Tryz.func87, Tryz.ntmps87
  go_wp2
  go_ret
  exact ⟨rfl, bel_alloc (bel_new _ _) _⟩
set_option maxHeartbeats 1000000 in
theorem turn_c (a0 a1 b0 b1 p0 p1 : Int) (w : World) (h1 : bdP (a0, a1)) (h2 : bdP (b0, b1)) (h3 : bdP (p0, p1)) :
    Calls Tryz.prog 65 #[.agg #[.int .i64 a0, .int .i64 a1], .agg #[.int .i64 b0, .int .i64 b1], .agg #[.int .i64 p0, .int .i64 p1]] w fun e w' => e = .returned (.int .i64 (turnP (a0, a1) (b0, b1) (p0, p1))) ∧ Below w.heap.size w w' := by
  have H := Lib.hid (turn_eq a0 a1 b0 b1 p0 p1)
  have C1 := fun w => minus_c b0 b1 a0 a1 w h2 h1
  have C2 := fun w => minus_c p0 p1 a0 a1 w h3 h1
  obtain ⟨⟨a2, a3⟩, a4, a5⟩ := h1
  obtain ⟨⟨b2, b3⟩, b4, b5⟩ := h2
  obtain ⟨⟨p2, p3⟩, p4, p5⟩ := h3
  dsimp only at *
  have C3 := fun w => cross_c (b0 - a0) (b1 - a1) (p0 - a0) (p1 - a1) w (by omega) (by omega) (by omega) (by omega)
  have P0 := (Bx.new w [.int .i64 a0, .int .i64 a1] 32)
  have P1 := (Bx.new (w.alloc (.cells #[.int .i64 a0, .int .i64 a1] 32)) [.int .i64 b0, .int .i64 b1] 32)
  have P2 := (Bx.new ((w.alloc (.cells #[.int .i64 a0, .int .i64 a1] 32)).alloc (.cells #[.int .i64 b0, .int .i64 b1] 32)) [.int .i64 p0, .int .i64 p1] 32)
  have P0 := (P0.alloc (.cells #[.int .i64 b0, .int .i64 b1] 32)).alloc (.cells #[.int .i64 p0, .int .i64 p1] 32)
  have P1 := P1.alloc (.cells #[.int .i64 p0, .int .i64 p1] 32)
  simp only [World.size_alloc] at P0 P1 P2
  have bel := bel_alloc (bel_alloc (bel_new w (.cells #[.int .i64 a0, .int .i64 a1] 32)) (.cells #[.int .i64 b0, .int .i64 b1] 32)) (.cells #[.int .i64 p0, .int .i64 p1] 32)
  go_enter Tryz.func65, Tryz.ntmps65
  go_wp2_with fail
  refine gen_worldP (C := Code.wp _ _ _ _) (fun u => Below w.heap.size w u ∧ Bx u w.heap.size [.int .i64 a0, .int .i64 a1] ∧ Bx u (w.heap.size + 1) [.int .i64 b0, .int .i64 b1] ∧ Bx u (w.heap.size + 1 + 1) [.int .i64 p0, .int .i64 p1]) ⟨bel, P0, P1, P2⟩ ?_
  clear bel P0 P1 P2
  rintro u ⟨bel, P0, P1, P2⟩
  have bel := bel.drew
  have P0 := P0.drew
  have P1 := P1.drew
  have P2 := P2.drew
  go_region_held3 (fun w' => w'.cell? ⟨w.heap.size, 0, none⟩ = some (.int .i64 a0) ∧ w'.cell? ⟨w.heap.size, 1, none⟩ = some (.int .i64 a1) ∧ w'.cell? ⟨w.heap.size + 1, 0, none⟩ = some (.int .i64 b0) ∧ w'.cell? ⟨w.heap.size + 1, 1, none⟩ = some (.int .i64 b1) ∧ w'.cell? ⟨w.heap.size + 1 + 1, 0, none⟩ = some (.int .i64 p0) ∧ w'.cell? ⟨w.heap.size + 1 + 1, 1, none⟩ = some (.int .i64 p1))
    (first | exact ⟨P0.at0, P0.at1, P1.at0, P1.at1, P2.at0, P2.at1⟩)
    (first
    | (go_at_call 88; with_reducible refine Calls.mono (C1 _) ?_; rintro e u1 ⟨rfl, hb1⟩; have P0 := P0.go hb1; have P1 := P1.go hb1; have P2 := P2.go hb1; have bel := bel.trans (hb1.mono bel.size))
    | (go_at_call 88; with_reducible refine Calls.mono (C2 _) ?_; rintro e u2 ⟨rfl, hb2⟩; have P0 := P0.go hb2; have P1 := P1.go hb2; have P2 := P2.go hb2; have bel := bel.trans (hb2.mono bel.size))
    | (go_at_call 87; with_reducible refine Calls.mono (C3 _) ?_; rintro e u3 ⟨rfl, hb3⟩; have P0 := P0.go hb3; have P1 := P1.go hb3; have P2 := P2.go hb3; have bel := bel.trans (hb3.mono bel.size)))
  go_wp2_with fail
  go_ret
  exact ⟨retI H.out.symm, bel⟩
theorem notPoint_c (x y : Int) (w : World) :
    Calls Tryz.prog 42 #[.agg #[.int .i64 x, .int .i64 y]] w fun e w' => e = .returned (.bool (!okPt (x, y))) ∧ Below w.heap.size w w' := by
  go_enter Tryz.func42, Tryz.ntmps42
  go_wp2_with fail
  refine (isPoint_c x y _).mono ?_; rintro e w' ⟨rfl, hb⟩
  go_wp2_with fail
  go_ret
  exact ⟨rfl, bel_step (bel_new _ _) hb⟩
end Go.Proofs.YtfkglbmdpefigaaGreatDoor
