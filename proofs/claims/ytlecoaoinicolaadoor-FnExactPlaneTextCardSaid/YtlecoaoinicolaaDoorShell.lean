/- How an argument of a law is opened: a slice of integers as the list that it reads as. -/
import Derived.Test.YtlecoaoinicolaaDoorRows
import Derived.Test.YtlecoaoinicolaaDoorBase
import Derived.ProofKit
import Derived.OpenShut
import Derived.ShutString
import Derived.ChangeOld
import Derived.Lib.SmallJoins
import Derived.Deep.Fields
import Derived.Deep.Slices
import Derived.Test.YtlecoaoinicolaaDoorTrm
namespace Go.Proofs.YtlecoaoinicolaaDoor
open Go.ChangeShapes Go.WideShapes Go.ChangeAt Go.RowKit Go.Joins Go.Deep
theorem own : ownKnob Tryd.prog.godebug = none := by kernel_rfl
theorem laidOut : laidOutB Tryd.prog = true := by kernel_rfl

section
variable {H : Type} {enc : TypeId × Value → H} {P : Program} {w : World} {base : Nat} {spare : Nat → Bool} {held : Bool}
theorem open_rd {r : Reach} {b0 : Nat} {t e : TypeId} {v : Value} {d : DataW H} {p : List MemPlace} (ht : P.underlying t = some (.slice e)) (he : P.underlying e = some (.int .i64)) (hc : P.cellsOf e = 1)
    (hv : Value.okWide P w r b0 t v) (h : DataW.Trod enc P w base spare held t v d p) : ∃ A n c zs, v = .slice A n c ∧ Rd w w.heap.size A n zs := by
  obtain ⟨A, n, c, rfl⟩ := okWide_slice ht hv
  obtain ⟨fuel, hf⟩ := h
  rcases open_ints ht he hc hf with ⟨hcs, _⟩ | ⟨x, l, c', zs, hcs, _, hl, hm, hz, _, hcell, _⟩
  · simp [Value.cells] at hcs
    obtain ⟨rfl, rfl, rfl⟩ := hcs
    exact ⟨_, _, _, [], rfl, Rd.none_⟩
  · simp [Value.cells] at hcs
    obtain ⟨rfl, rfl, rfl⟩ := hcs
    have hlz : n ≤ zs.length := by rw [hz]; split <;> omega
    refine ⟨_, _, _, zs.take n, rfl, by rw [List.length_take]; omega, by omega, fun hn => ⟨x, rfl, ?_, fun i z hi => ?_⟩⟩
    · have := block_lt_of_cell (hcell 0 (by omega))
      rwa [blk_add] at this
    · have hin : i < n := by
        have := (List.getElem?_eq_some_iff.1 hi).1
        rw [List.length_take] at this
        omega
      rw [List.getElem?_take, if_pos hin] at hi
      rw [hcell i (by omega), List.getD, hi]
      rfl
theorem open_two {r : Reach} {b0 : Nat} {t : TypeId} {f0 f1 : Field} {v : Value} {d : DataW H} {p : List MemPlace} (hs : P.underlying t = some (.struct #[f0, f1])) (hone : oneCellFields P #[f0, f1] = true) (hC : P.cellsOf t = 2)
    (h0 : P.underlying f0.type = some (.int .i64)) (h1 : P.underlying f1.type = some (.int .i64)) (hv : Value.okWide P w r b0 t v) (h : DataW.Trod enc P w base spare held t v d p) :
    ∃ x y, v = .agg #[.int .i64 x, .int .i64 y] ∧ (Lit.int .i64 x).wf = true ∧ (Lit.int .i64 y).wf = true := by
  obtain ⟨c0, c1, y0, y1, m, rfl, rfl, rfl, hy0, hy1⟩ := open_agg2 hs hone hC hv h
  obtain ⟨a, e0, _, wa⟩ := DataW.trod_int h0 hy0
  obtain ⟨b, e1, _, wb⟩ := DataW.trod_int h1 hy1
  simp at e0 e1
  subst e0 e1
  exact ⟨a, b, rfl, wa, wb⟩
theorem open_rows3 {r : Reach} {b0 : Nat} {t e : TypeId} {f0 f1 f2 : Field} {v : Value} {d : DataW H} {p : List MemPlace} (ht : P.underlying t = some (.slice e)) (he : P.underlying e = some (.struct #[f0, f1, f2])) (ce : P.cellsOf e = 3)
    (o0 : f0.offset = 0) (o1 : f1.offset = 1) (o2 : f2.offset = 2) (c0 : P.cellsOf f0.type = 1) (c1 : P.cellsOf f1.type = 1) (c2 : P.cellsOf f2.type = 1)
    (h0 : P.underlying f0.type = some (.int .i64)) (h1 : P.underlying f1.type = some (.int .i64)) (h2 : P.underlying f2.type = some (.int .i64))
    (hv : Value.okWide P w r b0 t v) (h : DataW.Trod enc P w base spare held t v d p) : ∃ A n c zs, v = .slice A n c ∧ RdT w w.heap.size A n zs := by
  obtain ⟨A, n, c, rfl⟩ := okWide_slice ht hv
  obtain ⟨fuel, hf⟩ := h
  rcases open_slice ht hf with ⟨hcs, _⟩ | ⟨a, len, cap, m, q, D, Pl, hcs, _, hl, hm, hmm, _, hel⟩
  · simp [Value.cells] at hcs
    obtain ⟨rfl, rfl, rfl⟩ := hcs
    exact ⟨_, _, _, [], rfl, RdT.none_⟩
  · simp [Value.cells] at hcs
    obtain ⟨rfl, rfl, rfl⟩ := hcs
    have hnm : n ≤ m := by rw [hmm]; split <;> omega
    have each : ∀ i, i < n → ∃ x : Trm, w.cell? (a.add (i * 3)) = some (.int .i64 x.1) ∧ w.cell? ((a.add (i * 3)).add 1) = some (.int .i64 x.2.1) ∧ w.cell? ((a.add (i * 3)).add 2) = some (.int .i64 x.2.2) := by
      intro i hi
      obtain ⟨cs', hcells, htr⟩ := hel i (by omega)
      rw [ce] at hcells
      obtain ⟨_, hlen, hat⟩ := World.cells?_some hcells
      obtain ⟨xs, k, _, _, _, hxl, hg⟩ := DataW.trod_struct he htr
      match cs', hlen, xs, hxl with
      | [v0, v1, v2], _, [y0, y1, y2], _ =>
        have g0 := hg 0 f0 rfl
        have g1 := hg 1 f1 rfl
        have g2 := hg 2 f2 rfl
        simp [o0, o1, o2, c0, c1, c2] at g0 g1 g2
        obtain ⟨x, e0, _, _⟩ := DataW.trod_int h0 g0
        obtain ⟨y, e1, _, _⟩ := DataW.trod_int h1 g1
        obtain ⟨z, e2, _, _⟩ := DataW.trod_int h2 g2
        simp at e0 e1 e2
        subst e0 e1 e2
        have a0 := hat 0 (by omega)
        rw [ad_add0] at a0
        exact ⟨(x, y, z), a0, hat 1 (by omega), hat 2 (by omega)⟩
    obtain ⟨T, hT⟩ := choose_lt each
    refine ⟨_, _, _, (List.range n).map T, rfl, by rw [flatT_len]; simp, by omega, fun hn => ?_⟩
    obtain ⟨bb, oo, spot⟩ := a
    have hz := (hT 0 hn).1
    rw [Nat.zero_mul, ad_add0] at hz
    obtain rfl : spot = none := World.cell?_spot hz
    refine ⟨bb, oo, rfl, block_lt_of_cell hz, fun i z hi => ?_⟩
    have hil : i < n * 3 := by
      have := (List.getElem?_eq_some_iff.1 hi).1
      rw [flatT_len] at this
      simpa using this
    have hz' : (flatT ((List.range n).map T)).getD i 0 = z := by rw [List.getD, hi]; rfl
    have hat := flatT_at ((List.range n).map T) (i / 3) (by simp; omega)
    have ht3 := hT (i / 3) (by omega)
    rw [show ((List.range n).map T).getD (i / 3) (0, 0, 0) = T (i / 3) from by simp [List.getD, show i / 3 < n from by omega]] at hat
    simp only [Addr.add_lit] at ht3
    rcases (show i = i / 3 * 3 ∨ i = i / 3 * 3 + 1 ∨ i = i / 3 * 3 + 2 by omega) with hi3 | hi3 | hi3
    · rw [hi3, hat.1] at hz'
      rw [hi3, ht3.1, hz']
    · rw [hi3, hat.2.1] at hz'
      rw [hi3, ← Nat.add_assoc, ht3.2.1, hz']
    · rw [hi3, hat.2.2] at hz'
      rw [hi3, ← Nat.add_assoc, ht3.2.2, hz']
end
set_option maxRecDepth 100000 in
theorem open_terms {H : Type} {enc : TypeId × Value → H} {w : World} {base b0 : Nat} {spare : Nat → Bool} {held : Bool} {r : Reach} {v : Value} {d : DataW H} {p : List MemPlace}
    (hv : Value.okWide Tryd.prog w r b0 22 v) (h : DataW.Trod enc Tryd.prog w base spare held 22 v d p) : ∃ A n c zs, v = .slice A n c ∧ RdT w w.heap.size A n zs :=
  open_rows3 Tryd.underlying22 Tryd.underlying35 (by kernel_rfl) (by rfl) (by rfl) (by rfl) (by kernel_rfl) (by kernel_rfl) (by kernel_rfl) (by exact Tryd.underlying3) (by exact Tryd.underlying3) (by exact Tryd.underlying3) hv h
end Go.Proofs.YtlecoaoinicolaaDoor
