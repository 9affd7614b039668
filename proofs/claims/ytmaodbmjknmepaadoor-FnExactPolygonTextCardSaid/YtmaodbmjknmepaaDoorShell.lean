/- How an argument of a law is opened: a slice of integers as the list that it reads as. -/
import Derived.Test.YtmaodbmjknmepaaDoorRows
import Derived.Test.YtmaodbmjknmepaaDoorBase
import Derived.ProofKit
import Derived.OpenShut
import Derived.ShutString
import Derived.ChangeOld
import Derived.Lib.SmallJoins
import Derived.Deep.Fields
import Derived.Deep.Slices
import Derived.Test.YtmaodbmjknmepaaDoorPnt
namespace Go.Proofs.YtmaodbmjknmepaaDoor
open Go.ChangeShapes Go.WideShapes Go.ChangeAt Go.RowKit Go.Joins Go.Deep
theorem own : ownKnob Tryd.prog.godebug = none := by kernel_rfl
theorem laidOut : laidOutB Tryd.prog = true := by kernel_rfl

section
variable {H : Type} {enc : TypeId × Value → H} {P : Program} {w : World} {base : Nat} {spare : Nat → Bool} {held : Bool}
theorem open_rd {r : Reach} {b0 : Nat} {t e : TypeId} {v : Value} {d : DataW H} {p : List MemPlace} (ht : P.underlying t = some (.slice e)) (he : P.underlying e = some (.int .i64)) (hc : P.cellsOf e = 1)
    (hv : Value.okWide P w r b0 t v) (h : DataW.Trod enc P w base spare held t v d p) : ∃ A n c zs, v = .slice A n c ∧ Rd w w.heap.size A n zs := by
  obtain ⟨A, n, c, rfl⟩ := okWide_slice ht hv
  obtain ⟨fuel, hf⟩ := h
  rcases open_ints ht he hc hf with ⟨hcs, _⟩ | ⟨x, l, c', zs, hcs, _, hl, hm, hz, _, hcell, _⟩
  · simp [Value.cells] at hcs
    obtain ⟨rfl, rfl, rfl⟩ := hcs
    exact ⟨_, _, _, [], rfl, Rd.none_⟩
  · simp [Value.cells] at hcs
    obtain ⟨rfl, rfl, rfl⟩ := hcs
    have hlz : n ≤ zs.length := by rw [hz]; split <;> omega
    refine ⟨_, _, _, zs.take n, rfl, by rw [List.length_take]; omega, by omega, fun hn => ⟨x, rfl, ?_, fun i z hi => ?_⟩⟩
    · have := block_lt_of_cell (hcell 0 (by omega))
      rwa [blk_add] at this
    · have hin : i < n := by
        have := (List.getElem?_eq_some_iff.1 hi).1
        rw [List.length_take] at this
        omega
      rw [List.getElem?_take, if_pos hin] at hi
      rw [hcell i (by omega), List.getD, hi]
      rfl
theorem open_two {r : Reach} {b0 : Nat} {t : TypeId} {f0 f1 : Field} {v : Value} {d : DataW H} {p : List MemPlace} (hs : P.underlying t = some (.struct #[f0, f1])) (hone : oneCellFields P #[f0, f1] = true) (hC : P.cellsOf t = 2)
    (h0 : P.underlying f0.type = some (.int .i64)) (h1 : P.underlying f1.type = some (.int .i64)) (hv : Value.okWide P w r b0 t v) (h : DataW.Trod enc P w base spare held t v d p) :
    ∃ x y, v = .agg #[.int .i64 x, .int .i64 y] ∧ (Lit.int .i64 x).wf = true ∧ (Lit.int .i64 y).wf = true := by
  obtain ⟨c0, c1, y0, y1, m, rfl, rfl, rfl, hy0, hy1⟩ := open_agg2 hs hone hC hv h
  obtain ⟨a, e0, _, wa⟩ := DataW.trod_int h0 hy0
  obtain ⟨b, e1, _, wb⟩ := DataW.trod_int h1 hy1
  simp at e0 e1
  subst e0 e1
  exact ⟨a, b, rfl, wa, wb⟩
theorem open_rows2 {r : Reach} {b0 : Nat} {t e : TypeId} {f0 f1 : Field} {v : Value} {d : DataW H} {p : List MemPlace} (ht : P.underlying t = some (.slice e)) (he : P.underlying e = some (.struct #[f0, f1])) (ce : P.cellsOf e = 2)
    (o0 : f0.offset = 0) (o1 : f1.offset = 1) (c0 : P.cellsOf f0.type = 1) (c1 : P.cellsOf f1.type = 1)
    (h0 : P.underlying f0.type = some (.int .i64)) (h1 : P.underlying f1.type = some (.int .i64))
    (hv : Value.okWide P w r b0 t v) (h : DataW.Trod enc P w base spare held t v d p) : ∃ A n c zs, v = .slice A n c ∧ RdP w w.heap.size A n zs := by
  obtain ⟨A, n, c, rfl⟩ := okWide_slice ht hv
  obtain ⟨fuel, hf⟩ := h
  rcases open_slice ht hf with ⟨hcs, _⟩ | ⟨a, len, cap, m, q, D, Pl, hcs, _, hl, hm, hmm, _, hel⟩
  · simp [Value.cells] at hcs
    obtain ⟨rfl, rfl, rfl⟩ := hcs
    exact ⟨_, _, _, [], rfl, RdP.none_⟩
  · simp [Value.cells] at hcs
    obtain ⟨rfl, rfl, rfl⟩ := hcs
    have hnm : n ≤ m := by rw [hmm]; split <;> omega
    have each : ∀ i, i < n → ∃ x : Pnt, w.cell? (a.add (i * 2)) = some (.int .i64 x.1) ∧ w.cell? ((a.add (i * 2)).add 1) = some (.int .i64 x.2) := by
      intro i hi
      obtain ⟨cs', hcells, htr⟩ := hel i (by omega)
      rw [ce] at hcells
      obtain ⟨_, hlen, hat⟩ := World.cells?_some hcells
      obtain ⟨xs, k, _, _, _, hxl, hg⟩ := DataW.trod_struct he htr
      match cs', hlen, xs, hxl with
      | [v0, v1], _, [y0, y1], _ =>
        have g0 := hg 0 f0 rfl
        have g1 := hg 1 f1 rfl
        simp [o0, o1, c0, c1] at g0 g1
        obtain ⟨x, e0, _, _⟩ := DataW.trod_int h0 g0
        obtain ⟨y, e1, _, _⟩ := DataW.trod_int h1 g1
        simp at e0 e1
        subst e0 e1
        have a0 := hat 0 (by omega)
        rw [ad_add0] at a0
        exact ⟨(x, y), a0, hat 1 (by omega)⟩
    obtain ⟨T, hT⟩ := choose_lt each
    refine ⟨_, _, _, (List.range n).map T, rfl, by rw [flatP_len]; simp, by omega, fun hn => ?_⟩
    obtain ⟨bb, oo, spot⟩ := a
    have hz := (hT 0 hn).1
    rw [Nat.zero_mul, ad_add0] at hz
    obtain rfl : spot = none := World.cell?_spot hz
    refine ⟨bb, oo, rfl, block_lt_of_cell hz, fun i z hi => ?_⟩
    have hil : i < n * 2 := by
      have := (List.getElem?_eq_some_iff.1 hi).1
      rw [flatP_len] at this
      simpa using this
    have hz' : (flatP ((List.range n).map T)).getD i 0 = z := by rw [List.getD, hi]; rfl
    have hat := flatP_at ((List.range n).map T) (i / 2) (by simp; omega)
    have ht2 := hT (i / 2) (by omega)
    rw [show ((List.range n).map T).getD (i / 2) (0, 0) = T (i / 2) from by simp [List.getD, show i / 2 < n from by omega]] at hat
    simp only [Addr.add_lit] at ht2
    rcases (show i = i / 2 * 2 ∨ i = i / 2 * 2 + 1 by omega) with hi2 | hi2
    · rw [hi2, hat.1] at hz'
      rw [hi2, ht2.1, hz']
    · rw [hi2, hat.2] at hz'
      rw [hi2, ← Nat.add_assoc, ht2.2, hz']
end
set_option maxRecDepth 100000 in
theorem open_points {H : Type} {enc : TypeId × Value → H} {w : World} {base b0 : Nat} {spare : Nat → Bool} {held : Bool} {r : Reach} {v : Value} {d : DataW H} {p : List MemPlace}
    (hv : Value.okWide Tryd.prog w r b0 22 v) (h : DataW.Trod enc Tryd.prog w base spare held 22 v d p) : ∃ A n c zs, v = .slice A n c ∧ RdP w w.heap.size A n zs :=
  open_rows2 Tryd.underlying22 Tryd.underlying35 (by kernel_rfl) (by rfl) (by rfl) (by kernel_rfl) (by kernel_rfl) (by exact Tryd.underlying3) (by exact Tryd.underlying3) hv h
end Go.Proofs.YtmaodbmjknmepaaDoor
