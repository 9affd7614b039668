/- Cells of an owned row of structs turned in place; 'clear' of its end; its front part. No program is named here. -/
import Derived.Test.YtfkglbmdpefigaaGreatDoorWide
import Derived.Lib.SliceRun
namespace Go.Proofs.YtfkglbmdpefigaaGreatDoor
open Go.RowKit
def laid : List Int → Nat → List Int → List Int
  | zs, _, [] => zs
  | zs, j, y :: ys => laid (zs.set j y) (j + 1) ys
theorem laid_len : ∀ (ys zs : List Int) (j : Nat), (laid zs j ys).length = zs.length
  | [], _, _ => rfl
  | y :: ys, zs, j => by rw [laid, laid_len ys]; simp
theorem laid_take : ∀ (ys zs : List Int) (j m : Nat), m ≤ j → (laid zs j ys).take m = zs.take m
  | [], _, _, _, _ => rfl
  | y :: ys, zs, j, m, h => by rw [laid, laid_take ys _ _ _ (by omega), List.take_set_of_le h]
section
variable {w w' : World} {B n k : Nat} {E : TypeId} {c g : Nat}
theorem OwnF.setMany : ∀ (ys zs : List Int) (j : Nat) (w : World), OwnF w B E k (.slice (some ⟨g, 0, none⟩) n c) n zs →
    OwnF (w.setCells g j (ys.map (Value.int .i64))) B E k (.slice (some ⟨g, 0, none⟩) n c) n (laid zs j ys) ∧ w.grownBy (w.setCells g j (ys.map (Value.int .i64))) (some g)
  | [], zs, j, w, h => ⟨h, World.grownBy.refl w (some g)⟩
  | y :: ys, zs, j, w, h => by
    obtain ⟨h1, h2⟩ := OwnF.setMany ys (zs.set j y) (j + 1) _ (h.set_ j y)
    exact ⟨h1, (h.set_grown j y).trans h2⟩
theorem OwnF.short {zs : List Int} {m : Nat} (h : OwnF w B E k (.slice (some ⟨g, 0, none⟩) n c) n zs) (hm : m ≤ n) : OwnF w B E k (.slice (some ⟨g, 0, none⟩) m c) m (zs.take (m * k)) := by
  have hl := h.len
  have hmk : m * k ≤ n * k := Nat.mul_le_mul_right _ hm
  rcases h.2 with ⟨hv, _⟩ | ⟨g', cap, cur, hv, hb, hg, hnc, hcm, hcs, ht⟩
  · cases hv
  · cases hv
    refine ⟨by rw [List.length_map, List.length_take]; omega, .inr ⟨g, c, cur, rfl, hb, hg, by omega, hcm, hcs, ?_⟩⟩
    rw [List.map_take, ← ht, List.take_take, Nat.min_eq_left hmk]
/-- 'clear' of the end of the row (its elements' cells are all integers). -/
theorem run_clear_own {P : Program} {t e : TypeId} {z : Value} (ht : P.underlying t = some (.slice e)) (hv : ∀ w, (zeroValue e).run P w = .ok z w) (hz : z.cells = Array.replicate k (.int .i64 0)) (hk : 0 < k)
    {zs : List Int} {m : Nat} (h : OwnF w B E k (.slice (some ⟨g, 0, none⟩) n c) n zs) (hm : m < n) :
    ∃ w', (∀ ty, (Builtin.clear_ #[t] ty #[.slice (some ⟨g, m * k, none⟩) (n - m) (c - m)]).run P w = .ok (.tuple #[]) w') ∧ OwnF w' B E k (.slice (some ⟨g, 0, none⟩) m c) m (zs.take (m * k)) ∧ w.grownBy w' (some g) := by
  have hl := h.len
  have hzc : (Builtin.zeroCells z.cells (n - m)).toList = (List.replicate ((n - m) * k) (0 : Int)).map (Value.int .i64) := by
    rw [hz]
    apply List.ext_getElem
    · simp [Builtin.zeroCells]
    · intro i h1 h2
      have hik : i % k < k := Nat.mod_lt _ hk
      simp [Builtin.zeroCells, hik]
  have hmn : m * k + (n - m) * k = n * k := by rw [← Nat.add_mul]; congr 1; omega
  obtain ⟨h1, h2⟩ := OwnF.setMany (List.replicate ((n - m) * k) (0 : Int)) zs (m * k) w h
  have h3 := h1.short (Nat.le_of_lt hm)
  rw [laid_take _ _ _ _ (Nat.le_refl _)] at h3
  refine ⟨_, fun ty => ?_, h3, h2⟩
  have hst := run_storeCells_cells (P := P) g (m * k) ((List.replicate ((n - m) * k) (0 : Int)).map (Value.int .i64)) 0 w (fun j hj => by
      have : j < (n - m) * k := by simpa using hj
      rw [Nat.add_zero, h.getAt (m * k + j) (by omega)]; rfl) (fun j hj => by rw [Nat.add_zero]; exact h.frozenAt _) (by intro v hv'; simp at hv'; rw [hv'.2]; rfl)
  simp only [Nat.add_zero] at hst
  obtain ⟨d, hd⟩ : ∃ d, n - m = d + 1 := ⟨n - m - 1, by omega⟩
  rw [hd] at hzc hst ⊢
  rw [List.map_replicate] at hzc hst
  simp [Builtin.clear_, run_underlying ht, hv, hzc, hst]
end
end Go.Proofs.YtfkglbmdpefigaaGreatDoor
