/- The law on powers of polynomials: both packages' functions against a plain one, and the walk of the law. -/
import Derived.Test.YtfmlclciijlpkaaWProd
namespace Go.Proofs.Ytfmlclciijlpkaa
open Go.RowKit
theorem Own.one {B : Nat} (w : World) (z : Int) (E : TypeId) (hB : B ≤ w.heap.size) : Own (w.alloc (.cells #[.int .i64 z] E)) B E (.slice (some ⟨w.heap.size, 0, none⟩) 1 1) 1 [z] :=
  World.ownsRow_lit (size := 1) (base := B) (e := E) w #[.int .i64 z] 1 hB (by simp [maxLen]) rfl
theorem ppowTo_fail {p : List Int} {k : Nat} (h : (ppowTo p (k + 1)).2 = false) : ∀ j, k < j → ppowTo p j = ([], false)
  | 0, hj => absurd hj (by omega)
  | j + 1, hj => by
    by_cases hkj : j = k
    · subst hkj
      rw [ppowTo] at h ⊢
      split
      · rename_i h2
        rw [if_pos h2] at h
        unfold toldPol at h ⊢
        split
        · rename_i h3
          rw [if_pos h3] at h
          exact absurd h (by simp)
        · rfl
      · rfl
    · rw [ppowTo, ppowTo_fail h j (by omega)]
      rfl
end Go.Proofs.Ytfmlclciijlpkaa
