/- What the readers need of the library's variables; pieces of a text. -/
import Derived.Test.YtkblommonimpfaaDoorWSpl
import Derived.Test.YtkblommonimpfaaDoorWAto
namespace Go.Proofs.YtkblommonimpfaaDoor
open Go.RowKit
/-- The library's own variable holds some number. -/
def MaxOk (w : World) : Prop := ∃ m, w.cell? ⟨2, 0, none⟩ = some (.int .i64 m)
theorem MaxOk.go {w w' : World} (h : MaxOk w) (hb : Below w.heap.size w w') : MaxOk w' := by
  obtain ⟨m, hm⟩ := h
  exact ⟨m, (hb.cell (p := ⟨2, 0, none⟩) (Lib.lt_of_cell hm)).trans hm⟩
theorem bel_dn (w : World) (k : Nat) : Below w.heap.size w (w.drewN k) := by
  induction k with
  | zero => exact Below.refl _ _
  | succ k ih => exact ih.drew
theorem bel_dn2 {B : Nat} {a b : World} (h : Below B a b) (k : Nat) : Below B a (b.drewN k) := by
  induction k generalizing b with
  | zero => exact h
  | succ k ih => exact (ih h).drew
theorem map_txtB {xs : List ByteArray} {l : List Bs} (h : xs.map (·.data.toList) = l) : xs = l.map txtB := by
  rw [← h, List.map_map]
  have : ∀ x ∈ xs, (txtB ∘ fun x : ByteArray => x.data.toList) x = x := fun x _ => txtB_data x
  rw [List.map_congr_left this, List.map_id']
theorem txtB_toList (l : Bs) : (txtB l).data.toList = l := rfl
theorem txtB_size (l : Bs) : (txtB l).size = l.length := by rw [Lib.size_eq, txtB_toList]
theorem spl_len (b : UInt8) : ∀ l : Bs, (spl b l).length ≤ l.length + 1
  | [] => Nat.le_refl _
  | c :: r => by
    have := spl_len b r
    rw [spl]
    split
    · simp only [List.length_cons]; omega
    · split
      · simp
      · rename_i h
        rw [h] at this
        simp only [List.length_cons] at this ⊢
        omega
theorem spl_mem (b : UInt8) : ∀ l : Bs, ∀ p ∈ spl b l, p.length ≤ l.length
  | [], p, h => by
    obtain rfl : p = [] := by simpa [spl] using h
    exact Nat.le_refl _
  | c :: r, p, h => by
    have ih := spl_mem b r
    rw [spl] at h
    split at h
    · rcases List.mem_cons.1 h with rfl | h
      · simp
      · have := ih p h
        simp only [List.length_cons]; omega
    · split at h
      · obtain rfl : p = [c] := by simpa using h
        simp
      · rename_i hh
        rw [hh] at ih
        rcases List.mem_cons.1 h with rfl | h
        · have := ih _ (List.mem_cons_self ..)
          simp only [List.length_cons]; omega
        · have := ih p (List.mem_cons_of_mem _ h)
          simp only [List.length_cons]; omega
/-- A word on what the reading needs of the world. -/
structure LibOk (w : World) : Prop where
  tab : TabOk w
  err : ErrOk w
  max : MaxOk w
theorem LibOk.go {w w' : World} (h : LibOk w) (hb : Below w.heap.size w w') : LibOk w' := ⟨h.tab.go hb, h.err.go hb, h.max.go hb⟩
theorem atoi_split (l : Bs) : (∃ v, Lib.atoiAll l = .ok v) ∨ ∀ v, Lib.atoiAll l ≠ .ok v := by
  cases Lib.atoiAll l
  · exact .inl ⟨_, rfl⟩
  · exact .inr fun v h => by cases h
  · exact .inr fun v h => by cases h
end Go.Proofs.YtkblommonimpfaaDoor
