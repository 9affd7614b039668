/- A box of two cells, both written. -/
import Derived.Test.YtfmlclciijlpkaaBase
namespace Go.Proofs.Ytfmlclciijlpkaa
open Go.RowKit
theorem Bx.put2 {a : World} {k : Nat} {u v : Value} (h : Bx a k [u, v]) (x y : Value) : Bx ((a.setCell ⟨k, 0, none⟩ x).setCell ⟨k, 1, none⟩ y) k [x, y] := by
  refine ⟨by have := h.1; simpa [World.setCell] using this, fun o z hz => ?_, fun o => by rw [World.frozen?_setCell, World.frozen?_setCell]; exact h.fz o⟩
  have h0 := h.at0
  have h1 := h.at1
  have g0 : (a.setCell ⟨k, 0, none⟩ x).cell? ⟨k, 0, none⟩ = some x := World.cell?_setCell_same _ _ _ h0
  have g1 : (a.setCell ⟨k, 0, none⟩ x).cell? ⟨k, 1, none⟩ = some v := (World.cell?_setCell_other _ _ _ _ (by simp)).trans h1
  match o, hz with
  | 0, hz => simp only [List.getElem?_cons_zero, Option.some.injEq] at hz; subst hz; exact (World.cell?_setCell_other _ _ _ _ (by simp)).trans g0
  | 1, hz => simp only [List.getElem?_cons_succ, List.getElem?_cons_zero, Option.some.injEq] at hz; subst hz; exact World.cell?_setCell_same _ _ _ g1
  | n + 2, hz => simp at hz
end Go.Proofs.Ytfmlclciijlpkaa
