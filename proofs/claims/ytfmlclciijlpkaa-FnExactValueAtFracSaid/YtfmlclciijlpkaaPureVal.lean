/- A polynomial's value at a fraction. The plain law. -/
import Derived.Test.YtfmlclciijlpkaaPureFrac
import Derived.Test.YtfmlclciijlpkaaPureCorn
namespace Go.Proofs.Ytfmlclciijlpkaa
theorem mkFr_ok {n d : Int} (h : (mkFr n d).2 = true) : isFr (mkFr n d).1.1 (mkFr n d).1.2 = true := by
  unfold mkFr at h ⊢
  split at h
  · cases h
  · rename_i hd
    rw [if_neg hd]
    split at h
    · rename_i h2
      rw [if_pos h2]; exact h2
    · cases h
theorem mkFr_off {n d : Int} (h : (mkFr n d).2 = false) : mkFr n d = ((0, 0), false) := by
  unfold mkFr at h ⊢
  split at h
  · rename_i hd; rw [if_pos hd]
  · rename_i hd
    rw [if_neg hd]
    split at h
    · cases h
    · rename_i h2; rw [if_neg h2]
theorem isFr_whole {n : Int} (h : -1000000000 ≤ n ∧ n ≤ 1000000000) : isFr n 1 = true := by
  rw [isFr, decide_eq_true (by omega), Bool.true_and, gcdI]
  simp
/-- The term i with coefficient c at the fraction n / d. -/
def xV (n d : Int) (i : Nat) : (Int × Int) × Bool := mkFr (i * n) d
def termV (n d : Int) (i : Nat) (c : Int) : (Int × Int) × Bool := if (xV n d i).2 then mkFr ((xV n d i).1.1 + c * (xV n d i).1.2) (xV n d i).1.2 else ((0, 0), false)
def yV (n d : Int) (p : List Int) (i : Nat) : (Int × Int) × Bool := termV n d i (p.getD i 0)
def lessB (y z : Int × Int) : Bool := decide (y.1 * z.2 - z.1 * y.2 < 0)
def pickB (y : Int × Int) : Option (Int × Int) → Option (Int × Int)
  | none => some y
  | some z => if lessB y z then some y else some z
def bestV (n d : Int) (p : List Int) (L : List Nat) : Option (Int × Int) := L.foldl (fun b i => pickB (yV n d p i).1 b) none
def okV (n d : Int) (p : List Int) (L : List Nat) : Bool := L.all fun i => (yV n d p i).2
theorem bestV_snoc (n d : Int) (p : List Int) (L : List Nat) (i : Nat) : bestV n d p (L ++ [i]) = pickB (yV n d p i).1 (bestV n d p L) := by simp [bestV]
theorem okV_snoc (n d : Int) (p : List Int) (L : List Nat) (i : Nat) : okV n d p (L ++ [i]) = (okV n d p L && (yV n d p i).2) := by simp [okV]
theorem pickB_some (y : Int × Int) (b : Option (Int × Int)) : ∃ z, pickB y b = some z := by
  cases b with
  | none => exact ⟨y, rfl⟩
  | some z => simp only [pickB]; split <;> exact ⟨_, rfl⟩
theorem pickB_or (y : Int × Int) (b : Option (Int × Int)) : pickB y b = some y ∨ pickB y b = b := by
  cases b with
  | none => exact .inl rfl
  | some z => simp only [pickB]; split <;> simp
theorem snoc_cases (L : List Nat) : L = [] ∨ ∃ M i, L = M ++ [i] := by
  rcases List.eq_nil_or_concat L with h | ⟨M, i, h⟩
  · exact .inl h
  · exact .inr ⟨M, i, by rw [h]; simp⟩
theorem bestV_none {n d : Int} {p : List Int} {L : List Nat} : bestV n d p L = none ↔ L = [] := by
  rcases snoc_cases L with rfl | ⟨M, i, rfl⟩
  · simp [bestV]
  · rw [bestV_snoc]
    obtain ⟨z, hz⟩ := pickB_some (yV n d p i).1 (bestV n d p M)
    rw [hz]; simp
theorem termV_ok {n d : Int} {i : Nat} {c : Int} (h : (termV n d i c).2 = true) : isFr (termV n d i c).1.1 (termV n d i c).1.2 = true := by
  unfold termV at h ⊢
  split at h
  · rename_i h1; rw [if_pos h1]; exact mkFr_ok h
  · cases h
theorem bestV_fr {n d : Int} {p : List Int} : ∀ (k : Nat) (L : List Nat), L.length = k → okV n d p L = true → ∀ z, bestV n d p L = some z → isFr z.1 z.2 = true
  | 0, L, hk, _, z, hz => by
    have : L = [] := by simpa using hk
    rw [this] at hz; cases hz
  | k + 1, L, hk, ho, z, hz => by
    rcases snoc_cases L with rfl | ⟨M, i, rfl⟩
    · cases hz
    · rw [okV_snoc, Bool.and_eq_true] at ho
      rw [bestV_snoc] at hz
      rcases pickB_or (yV n d p i).1 (bestV n d p M) with e | e
      · rw [e] at hz
        cases hz
        exact termV_ok ho.2
      · rw [e] at hz
        exact bestV_fr k M (by simpa using hk) ho.1 z hz
theorem okV_fail {n d : Int} {p : List Int} {L : List Nat} {i : Nat} (h : i ∈ L) (k : (yV n d p i).2 = false) : okV n d p L = false := by
  rw [okV, List.all_eq_false]
  exact ⟨i, h, by rw [k]; simp⟩
def pValueAt (p : List Int) (n d : Int) : (Int × Int) × Bool := if isPol p && isFr n d then (if okV n d p (finTo p p.length) then ((bestV n d p (finTo p p.length)).getD (0, 0), true) else ((0, 0), false)) else ((0, 0), false)
end Go.Proofs.Ytfmlclciijlpkaa
