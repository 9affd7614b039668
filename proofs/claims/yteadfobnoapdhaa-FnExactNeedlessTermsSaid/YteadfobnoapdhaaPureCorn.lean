/- The corners of a polynomial's lower hull, in plain Lean: a stack (head: top) of places. No program in sight. -/
import Derived.Test.YteadfobnoapdhaaPurePoly
namespace Go.Proofs.Yteadfobnoapdhaa
/-- Is the turn a, b, k convex: does b stay on the stack? -/
def stays (p : List Int) (a b k : Nat) : Bool := decide ((p.getD b 0 - p.getD a 0) * ((k : Int) - (a : Int)) < (p.getD k 0 - p.getD a 0) * ((b : Int) - (a : Int)))
def popTo (p : List Int) (k : Nat) : List Nat → List Nat
  | [] => []
  | b :: [] => [b]
  | b :: a :: s => if stays p a b k then b :: a :: s else popTo p k (a :: s)
def cornTo (p : List Int) : Nat → List Nat
  | 0 => []
  | k + 1 => if p.getD k 0 = 1000000000 then cornTo p k else k :: popTo p k (cornTo p k)
/-- The stack as the slice holds it. -/
def asRow (s : List Nat) : List Int := (s.map Int.ofNat).reverse
theorem asRow_cons (b : Nat) (s : List Nat) : asRow (b :: s) = asRow s ++ [(b : Int)] := by simp [asRow]
theorem asRow_len (s : List Nat) : (asRow s).length = s.length := by simp [asRow]
def pCorners (p : List Int) : List Int × Bool := if isPol p then (asRow (cornTo p p.length), true) else ([], false)
theorem popTo_lt {p : List Int} {k m : Nat} : ∀ {s : List Nat}, (∀ i ∈ s, i < m) → ∀ i ∈ popTo p k s, i < m
  | [], h => h
  | [_], h => h
  | b :: a :: s, h => by
    rw [popTo]
    split
    · exact h
    · exact popTo_lt fun i hi => h i (List.mem_cons_of_mem _ hi)
theorem cornTo_lt (p : List Int) : ∀ k, ∀ i ∈ cornTo p k, i < k
  | 0 => by simp [cornTo]
  | k + 1 => by
    rw [cornTo]
    split
    · exact fun i hi => Nat.lt_succ_of_lt (cornTo_lt p k i hi)
    · intro i hi
      rcases List.mem_cons.1 hi with rfl | hi
      · omega
      · exact Nat.lt_succ_of_lt (popTo_lt (cornTo_lt p k) i hi)
theorem popTo_len (p : List Int) (k : Nat) : ∀ s : List Nat, (popTo p k s).length ≤ s.length
  | [] => by simp [popTo]
  | [_] => by simp [popTo]
  | b :: a :: s => by
    rw [popTo]
    split
    · exact Nat.le_refl _
    · exact Nat.le_trans (popTo_len p k (a :: s)) (by simp)
theorem cornTo_len (p : List Int) : ∀ k, (cornTo p k).length ≤ k
  | 0 => by simp [cornTo]
  | k + 1 => by
    rw [cornTo]
    split
    · exact Nat.le_succ_of_le (cornTo_len p k)
    · have h1 := popTo_len p k (cornTo p k)
      have h2 := cornTo_len p k
      simp only [List.length_cons]
      omega
/-- The exponents below k whose coefficient is finite. -/
def finTo (p : List Int) : Nat → List Nat
  | 0 => []
  | k + 1 => if p.getD k 0 = 1000000000 then finTo p k else finTo p k ++ [k]
def stepC (p : List Int) (s : List Nat) (k : Nat) : List Nat := k :: popTo p k s
theorem cornTo_fold (p : List Int) : ∀ k, cornTo p k = (finTo p k).foldl (stepC p) []
  | 0 => rfl
  | k + 1 => by
    rw [cornTo, finTo]
    split
    · exact cornTo_fold p k
    · rw [List.foldl_append, ← cornTo_fold p k]
      rfl
theorem finTo_lt (p : List Int) : ∀ k, ∀ i ∈ finTo p k, i < k
  | 0 => by simp [finTo]
  | k + 1 => by
    rw [finTo]
    split
    · exact fun i hi => Nat.lt_succ_of_lt (finTo_lt p k i hi)
    · intro i hi
      rcases List.mem_append.1 hi with hi | hi
      · exact Nat.lt_succ_of_lt (finTo_lt p k i hi)
      · simp at hi
        omega
theorem finTo_len (p : List Int) : ∀ k, (finTo p k).length ≤ k
  | 0 => by simp [finTo]
  | k + 1 => by
    rw [finTo]
    have := finTo_len p k
    split
    · omega
    · simp; omega
/-- The stack behind the first j elements of a list. -/
def stackC (p : List Int) (L : List Nat) (j : Nat) : List Nat := (L.take j).foldl (stepC p) []
theorem stackC_step {p : List Int} {L : List Nat} {j : Nat} (h : j < L.length) : stackC p L (j + 1) = L.getD j 0 :: popTo p (L.getD j 0) (stackC p L j) := by
  rw [stackC, List.take_succ_eq_append_getElem h, List.foldl_append]
  simp [stackC, stepC, List.getD, h]
theorem stackC_lt {p : List Int} {L : List Nat} {m : Nat} (h : ∀ i ∈ L, i < m) : ∀ j, ∀ i ∈ stackC p L j, i < m
  | 0 => by simp [stackC]
  | j + 1 => by
    by_cases hj : j < L.length
    · rw [stackC_step hj]
      intro i hi
      rcases List.mem_cons.1 hi with rfl | hi
      · exact h _ (by simp [List.getD, List.getElem?_eq_getElem hj])
      · exact popTo_lt (stackC_lt h j) i hi
    · have : stackC p L (j + 1) = stackC p L j := by rw [stackC, stackC, List.take_of_length_le (by omega), List.take_of_length_le (by omega)]
      rw [this]
      exact stackC_lt h j
theorem stackC_len (p : List Int) (L : List Nat) : ∀ j, (stackC p L j).length ≤ j
  | 0 => by simp [stackC]
  | j + 1 => by
    have ih := stackC_len p L j
    by_cases hj : j < L.length
    · rw [stackC_step hj]
      have := popTo_len p (L.getD j 0) (stackC p L j)
      simp only [List.length_cons]
      omega
    · have : stackC p L (j + 1) = stackC p L j := by rw [stackC, stackC, List.take_of_length_le (by omega), List.take_of_length_le (by omega)]
      rw [this]
      omega
end Go.Proofs.Yteadfobnoapdhaa
