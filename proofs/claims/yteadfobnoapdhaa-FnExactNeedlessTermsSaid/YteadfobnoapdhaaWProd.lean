/- The laws on products and powers of polynomials: both packages' functions against plain ones, and the walk of each law. -/
import Derived.Test.YteadfobnoapdhaaPoly
import Derived.Test.YteadfobnoapdhaaMem
import Derived.StillTailTactics
namespace Go.Proofs.Yteadfobnoapdhaa
open Go.RowKit
/- The product by rows: what the row-wise loop has put at place n. -/
def rowAt (p q : List Int) (i k n : Nat) : Int := if i ≤ n ∧ n < i + k then convTo p q n (i + 1) else convTo p q n i
def rowsTo (p q : List Int) (i k m : Nat) : List Int := (List.range m).map (rowAt p q i k)
theorem rowsTo_len (p q : List Int) (i k m : Nat) : (rowsTo p q i k m).length = m := by simp [rowsTo]
theorem rowsTo_at {p q : List Int} {i k m n : Nat} (h : n < m) : (rowsTo p q i k m).getD n 0 = rowAt p q i k n := by simp [rowsTo, List.getD, h]
theorem rowsTo_zero (p q : List Int) (m : Nat) : rowsTo p q 0 0 m = List.replicate m 1000000000 := by
  apply List.ext_getElem?
  intro n
  by_cases h : n < m
  · simp [rowsTo, rowAt, convTo, h]
  · simp [rowsTo, h]
/-- One row is done. -/
theorem rowsTo_row (p q : List Int) (i m : Nat)  : rowsTo p q i q.length m = rowsTo p q (i + 1) 0 m := by
  unfold rowsTo
  refine List.map_congr_left fun n hn => ?_
  have hn' : n < m := by simpa using hn
  unfold rowAt
  rw [if_neg (show ¬ (i + 1 ≤ n ∧ n < i + 1 + 0) by omega)]
  by_cases h : i ≤ n ∧ n < i + q.length
  · rw [if_pos h]
  · rw [if_neg h, convTo]
    by_cases h2 : i ≤ n
    · rw [if_pos h2]
      have h3 : prod (coef p i) (coef q (n - i)) = 1000000000 := by rw [prod, if_pos (.inr (coef_out (by omega)))]
      have := convTo_le p q n i
      omega
    · rw [if_neg h2]
/-- One step within a row. -/
theorem rowsTo_step (p q : List Int) (i k m : Nat) (_hm : i + k < m) : (rowsTo p q i k m).set (i + k) (min (convTo p q (i + k) i) (prod (coef p i) (coef q k))) = rowsTo p q i (k + 1) m := by
  apply List.ext_getElem?
  intro n
  rw [List.getElem?_set]
  by_cases hn : i + k = n
  · subst hn
    rw [if_pos rfl]
    simp only [rowsTo, List.length_map, List.length_range, List.getElem?_map, List.getElem?_range _hm, _hm, if_true, Option.map_some, rowAt]
    rw [if_pos (by omega), convTo, if_pos (by omega), Nat.add_sub_cancel_left]
  · rw [if_neg hn]
    by_cases h : n < m
    · simp only [rowsTo, List.getElem?_map, List.getElem?_range h, Option.map_some, rowAt]
      by_cases h2 : i ≤ n ∧ n < i + k
      · rw [if_pos h2, if_pos (by omega)]
      · rw [if_neg h2, if_neg (by omega)]
    · simp [rowsTo, h]
theorem rowsTo_all (p q : List Int) (m : Nat) : rowsTo p q p.length 0 m = pprodTo p q m := by
  induction m with
  | zero => rfl
  | succ m ih =>
    rw [pprodTo, ← ih]
    simp only [rowsTo, List.range_succ, List.map_append, List.map_cons, List.map_nil]
    congr 2
    rw [rowAt, if_neg (by omega), convTo_all]
theorem replicate_step {m k : Nat} (hk : k < m) : (List.replicate k (1000000000 : Int) ++ List.replicate (m - k) 0).set k 1000000000 = List.replicate (k + 1) 1000000000 ++ List.replicate (m - (k + 1)) 0 := by
  rw [List.set_append_right _ _ (by simp), List.length_replicate, Nat.sub_self, show m - k = (m - (k + 1)) + 1 from by omega, List.replicate_succ, List.set_cons_zero, List.replicate_succ']
  simp
theorem Own.getAt {w : World} {B g n c : Nat} {E : TypeId} {zs : List Int} (h : Own w B E (.slice (some ⟨g, 0, none⟩) n c) n zs) (j : Nat) (hj : j < n) : w.cell? ⟨g, j, none⟩ = some (.int .i64 (zs.getD j 0)) := by
  rw [World.ownsRow.cellAt h j (by omega)]
  have := h.len
  simp [List.getD, List.getElem?_eq_getElem (show j < zs.length by omega)]
theorem still_of {P : Program} {f : FuncId} {args : Array Value} {w : World} {v : Value} (h : Calls P f args w fun e w' => e = .returned v ∧ w = w') : Calls P f args w fun e w' => e = .returned v ∧ w' = w :=
  h.mono fun _ _ ⟨a, b⟩ => ⟨a, b.symm⟩
end Go.Proofs.Yteadfobnoapdhaa
