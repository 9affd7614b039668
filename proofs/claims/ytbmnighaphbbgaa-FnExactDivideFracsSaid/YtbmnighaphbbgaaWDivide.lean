/- The laws on sums, differences, products and quotients of two fractions: the walk of each law. -/
import Derived.Test.YtbmnighaphbbgaaWFrac
import Derived.Test.YtbmnighaphbbgaaPut2
import Derived.Deep.RegionHeld3
import Derived.Deep.DeepCutAuto
namespace Go.Proofs.Ytbmnighaphbbgaa
open Go.RowKit
set_option maxHeartbeats 4000000 in
theorem walk_FnExactDivideFracs (a0 b0 : Int) (a1 b1 : Int) (w : World) (w0 : (Lit.int .i64 a0).wf = true) (x0 : (Lit.int .i64 b0).wf = true) (w1 : (Lit.int .i64 a1).wf = true) (x1 : (Lit.int .i64 b1).wf = true) :
  Calls Try.prog 9 #[.agg #[.int .i64 a0, .int .i64 b0], .agg #[.int .i64 a1, .int .i64 b1]] w fun e w' => e = .returned (.bool true) ∧ Below w.heap.size w w' := by
  have _w := w0
  have _w := x0
  have _w := w1
  have _w := x1
  have bel := (bel_alloc (bel_new w (.cells #[.int .i64 a0, .int .i64 b0] 23)) (.cells #[.int .i64 a1, .int .i64 b1] 23)).drew
  have X := bx2 w [.int .i64 a0, .int .i64 b0] [.int .i64 a1, .int .i64 b1] 23 23
  have P := X.1.drew
  have Q := X.2.drew
  have sq := Q.1
  clear X
  go_enter Try.func9, Try.ntmps9
  go_upto_region 1 with fail
  go_cut [5, 6] (fun s1 s2 wx => ∃ kk : Nat, s1 = .pointer (some ⟨kk, 0, none⟩) ∧ s2 = .bool (pDiv a0 b0 a1 b1).2 ∧ Bx wx kk [.int .i64 (pDiv a0 b0 a1 b1).1.1, .int .i64 (pDiv a0 b0 a1 b1).1.2] ∧ Bx wx w.heap.size [.int .i64 a0, .int .i64 b0] ∧ Bx wx (w.heap.size + 1) [.int .i64 a1, .int .i64 b1] ∧ Below w.heap.size w wx)
  case first =>
    go_region_held3 (fun w' => w'.cell? ⟨w.heap.size, 0, none⟩ = some (.int .i64 a0) ∧ w'.cell? ⟨w.heap.size, 1, none⟩ = some (.int .i64 b0) ∧ w'.cell? ⟨w.heap.size + 1, 0, none⟩ = some (.int .i64 a1) ∧ w'.cell? ⟨w.heap.size + 1, 1, none⟩ = some (.int .i64 b1)) (first | exact keep4 P Q | (refine keep4 ?_ ?_ <;> (repeat (first | exact P | exact Q | refine Bx.alloc ?_ _ | refine Bx.set_ ?_ (by dsimp only; omega) _))))
      (first
      | (go_at_call 15; refine (toFrac_c _ _ _).mono ?_; rintro e u1 ⟨rfl, hb1⟩; have bel : Below w.heap.size w u1 := (by first | exact bel_step bel hb1 | exact bel_step (bel_alloc bel _) hb1); have P : Bx u1 w.heap.size [.int .i64 a0, .int .i64 b0] := (by first | exact P.go hb1 | exact (P.alloc _).go hb1); have Q : Bx u1 (w.heap.size + 1) [.int .i64 a1, .int .i64 b1] := (by first | exact Q.go hb1 | exact (Q.alloc _).go hb1); (first | have Z := Z.go hb1 | have Z := (Bx.new _ [.int .i64 0, .int .i64 0] _).go hb1 | have Z := (Bx.new _ [.int .i64 0, .int .i64 0] _).drew.go hb1 | skip); (try simp only [World.size_alloc] at Z); (try have z0 := Z.at0); (try have z1 := Z.at1); (try have zf := Z.fz); obtain ⟨hkc, hkf⟩ := bel_cells hb1; have sq := Q.1; have hz := hb1.size; try (simp only [World.size_alloc] at hz; have hz := Nat.lt_of_succ_le hz))
      | (go_at_call 28; refine (specDivideFracs_c _ _ _ _ _).mono ?_; rintro e u1 ⟨rfl, hb1⟩; have bel : Below w.heap.size w u1 := (by first | exact bel_step bel hb1 | exact bel_step (bel_alloc bel _) hb1); have P : Bx u1 w.heap.size [.int .i64 a0, .int .i64 b0] := (by first | exact P.go hb1 | exact (P.alloc _).go hb1); have Q : Bx u1 (w.heap.size + 1) [.int .i64 a1, .int .i64 b1] := (by first | exact Q.go hb1 | exact (Q.alloc _).go hb1); (first | have Z := Z.go hb1 | have Z := (Bx.new _ [.int .i64 0, .int .i64 0] _).go hb1 | have Z := (Bx.new _ [.int .i64 0, .int .i64 0] _).drew.go hb1 | skip); (try simp only [World.size_alloc] at Z); (try have z0 := Z.at0); (try have z1 := Z.at1); (try have zf := Z.fz); obtain ⟨hkc, hkf⟩ := bel_cells hb1; have sq := Q.1; have hz := hb1.size; try (simp only [World.size_alloc] at hz; have hz := Nat.lt_of_succ_le hz)))
    all_goals
      go_wp2_with fail
      go_meet
      refine ⟨_, rfl, rfl, ?_, ?_, ?_, ?_⟩
      · first | exact Z.put2 _ _ | exact (Bx.new _ [.int .i64 0, .int .i64 0] _).put2 _ _ | exact Bx.new _ [.int .i64 (pDiv a0 b0 a1 b1).1.1, .int .i64 (pDiv a0 b0 a1 b1).1.2] _
      · repeat (first | exact P | refine Bx.alloc ?_ _ | refine Bx.set_ ?_ (by dsimp only; omega) _)
      · repeat (first | exact Q | refine Bx.alloc ?_ _ | refine Bx.set_ ?_ (by dsimp only; omega) _)
      · repeat (first | exact bel | refine bel_alloc ?_ _ | refine bel_set ?_ (by dsimp only; omega) _)
  case rest =>
    clear P Q sq bel
    obtain ⟨k, rfl, rfl, R, P, Q, bel⟩ := hcut
    have P := P.drew
    have Q := Q.drew
    have R := R.drew
    have bel := bel.drew
    have sq : w.heap.size + 1 < wc.heap.size := Q.1
    have sr : k < wc.heap.size := R.1
    go_upto_region 2 with fail
    go_cut [7, 8] (fun s1 s2 wx => ∃ kk : Nat, s1 = .pointer (some ⟨kk, 0, none⟩) ∧ s2 = .bool (pDiv a0 b0 a1 b1).2 ∧ Bx wx kk [.int .i64 (pDiv a0 b0 a1 b1).1.1, .int .i64 (pDiv a0 b0 a1 b1).1.2] ∧ Bx wx w.heap.size [.int .i64 a0, .int .i64 b0] ∧ Bx wx (w.heap.size + 1) [.int .i64 a1, .int .i64 b1] ∧ Below w.heap.size w wx ∧ Bx wx k [.int .i64 (pDiv a0 b0 a1 b1).1.1, .int .i64 (pDiv a0 b0 a1 b1).1.2])
    case first =>
      go_region_held3 (fun w' => w'.cell? ⟨w.heap.size, 0, none⟩ = some (.int .i64 a0) ∧ w'.cell? ⟨w.heap.size, 1, none⟩ = some (.int .i64 b0) ∧ w'.cell? ⟨w.heap.size + 1, 0, none⟩ = some (.int .i64 a1) ∧ w'.cell? ⟨w.heap.size + 1, 1, none⟩ = some (.int .i64 b1)) (first | exact keep4 P Q | (refine keep4 ?_ ?_ <;> (repeat (first | exact P | exact Q | refine Bx.alloc ?_ _ | refine Bx.set_ ?_ (by dsimp only; omega) _))))
        (first
        | (go_at_call 15; refine (toFrac_c _ _ _).mono ?_; rintro e u1 ⟨rfl, hb1⟩; have bel : Below w.heap.size w u1 := (by first | exact bel_step bel hb1 | exact bel_step (bel_alloc bel _) hb1); have P : Bx u1 w.heap.size [.int .i64 a0, .int .i64 b0] := (by first | exact P.go hb1 | exact (P.alloc _).go hb1); have Q : Bx u1 (w.heap.size + 1) [.int .i64 a1, .int .i64 b1] := (by first | exact Q.go hb1 | exact (Q.alloc _).go hb1); have R : Bx u1 k [.int .i64 (pDiv a0 b0 a1 b1).1.1, .int .i64 (pDiv a0 b0 a1 b1).1.2] := (by first | exact R.go hb1 | exact (R.alloc _).go hb1); have sr := R.1; (first | have Z := Z.go hb1 | have Z := (Bx.new _ [.int .i64 0, .int .i64 0] _).go hb1 | have Z := (Bx.new _ [.int .i64 0, .int .i64 0] _).drew.go hb1 | skip); (try simp only [World.size_alloc] at Z); (try have z0 := Z.at0); (try have z1 := Z.at1); (try have zf := Z.fz); obtain ⟨hkc, hkf⟩ := bel_cells hb1; have sq := Q.1; have hz := hb1.size; try (simp only [World.size_alloc] at hz; have hz := Nat.lt_of_succ_le hz))
        | (go_at_call 29; refine (implDivideFracs_c _ _ _ _ _).mono ?_; rintro e u1 ⟨rfl, hb1⟩; have bel : Below w.heap.size w u1 := (by first | exact bel_step bel hb1 | exact bel_step (bel_alloc bel _) hb1); have P : Bx u1 w.heap.size [.int .i64 a0, .int .i64 b0] := (by first | exact P.go hb1 | exact (P.alloc _).go hb1); have Q : Bx u1 (w.heap.size + 1) [.int .i64 a1, .int .i64 b1] := (by first | exact Q.go hb1 | exact (Q.alloc _).go hb1); have R : Bx u1 k [.int .i64 (pDiv a0 b0 a1 b1).1.1, .int .i64 (pDiv a0 b0 a1 b1).1.2] := (by first | exact R.go hb1 | exact (R.alloc _).go hb1); have sr := R.1; (first | have Z := Z.go hb1 | have Z := (Bx.new _ [.int .i64 0, .int .i64 0] _).go hb1 | have Z := (Bx.new _ [.int .i64 0, .int .i64 0] _).drew.go hb1 | skip); (try simp only [World.size_alloc] at Z); (try have z0 := Z.at0); (try have z1 := Z.at1); (try have zf := Z.fz); obtain ⟨hkc, hkf⟩ := bel_cells hb1; have sq := Q.1; have hz := hb1.size; try (simp only [World.size_alloc] at hz; have hz := Nat.lt_of_succ_le hz)))
      all_goals
        go_wp2_with fail
        go_meet
        refine ⟨_, rfl, rfl, ?_, ?_, ?_, ?_, ?_⟩
        · first | exact Z.put2 _ _ | exact (Bx.new _ [.int .i64 0, .int .i64 0] _).put2 _ _ | exact Bx.new _ [.int .i64 (pDiv a0 b0 a1 b1).1.1, .int .i64 (pDiv a0 b0 a1 b1).1.2] _
        · repeat (first | exact P | refine Bx.alloc ?_ _ | refine Bx.set_ ?_ (by dsimp only; omega) _)
        · repeat (first | exact Q | refine Bx.alloc ?_ _ | refine Bx.set_ ?_ (by dsimp only; omega) _)
        · repeat (first | exact bel | refine bel_alloc ?_ _ | refine bel_set ?_ (by dsimp only; omega) _)
        · repeat (first | exact R | refine Bx.alloc ?_ _ | refine Bx.set_ ?_ (by dsimp only; omega) _)
    case rest =>
      clear P Q sq bel R sr
      obtain ⟨k2, rfl, rfl, S, P, Q, bel, R⟩ := hcut
      have r0 := R.at0
      have r1 := R.at1
      have s0 := S.at0
      have s1 := S.at1
      clear P Q R S
      go_wp2_with fail
      refine (eqFrac_c _ _ _).mono ?_; rintro e u3 ⟨rfl, hb3⟩
      have bel := bel_step bel hb3
      go_wp2_with fail
      go_ret
      exact ⟨rfl, bel⟩
end Go.Proofs.Ytbmnighaphbbgaa
