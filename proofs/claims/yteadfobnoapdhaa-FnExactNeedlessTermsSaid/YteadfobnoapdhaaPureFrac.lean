/- What the functions on fractions compute, in plain integers: no program is named here. -/
import Derived.Test.YteadfobnoapdhaaPure
namespace Go.Proofs.Yteadfobnoapdhaa
open Go.RowKit

/-- The greatest common divisor, as an integer. -/
def gcdI (a b : Int) : Int := (Nat.gcd a.natAbs b.natAbs : Int)
theorem gcdI_nn (a b : Int) : 0 ≤ gcdI a b := Int.natCast_nonneg _
theorem gcdI_pos {a b : Int} (h : b ≠ 0) : 1 ≤ gcdI a b := by
  have : 0 < Nat.gcd a.natAbs b.natAbs := Nat.gcd_pos_of_pos_right _ (by omega)
  unfold gcdI
  omega
theorem gcdI_le {a b : Int} (h : b ≠ 0) : gcdI a b ≤ b.natAbs := by
  have := Nat.gcd_le_right a.natAbs (show 0 < b.natAbs by omega)
  unfold gcdI
  omega
theorem gcd_step (x y : Nat) : Nat.gcd y (x % y) = Nat.gcd x y := by rw [Nat.gcd_comm y (x % y), ← Nat.gcd_rec, Nat.gcd_comm]
theorem gcd_stepI (x y : Int) : Nat.gcd y.natAbs (x.tmod y).natAbs = Nat.gcd x.natAbs y.natAbs := by rw [Int.natAbs_tmod, gcd_step]

/-- A valid fraction. -/
def isFr (n d : Int) : Bool := decide (-1000000000 ≤ n ∧ n ≤ 1000000000 ∧ 1 ≤ d ∧ d ≤ 1000000000) && gcdI n d == 1
theorem isFr_bd {n d : Int} (h : isFr n d = true) : -1000000000 ≤ n ∧ n ≤ 1000000000 ∧ 1 ≤ d ∧ d ≤ 1000000000 := by
  simp only [isFr, Bool.and_eq_true, decide_eq_true_eq] at h
  exact h.1
/-- A fraction's parts, 0 where it is none. -/
def okN (n d : Int) : Int := if isFr n d then n else 0
def okD (n d : Int) : Int := if isFr n d then d else 0
/-- n divided by d in lowest terms. -/
def sgcd (n d : Int) : Int := if d < 0 then -gcdI n d else gcdI n d
def lowN (n d : Int) : Int := n.tdiv (sgcd n d)
def lowD (n d : Int) : Int := d.tdiv (sgcd n d)
theorem sgcd_ne {n d : Int} (h : d ≠ 0) : sgcd n d ≠ 0 := by
  have := gcdI_pos (a := n) h
  unfold sgcd
  split <;> omega
theorem tdiv_bd {x y B : Int} (_hy : y ≠ 0) (h1 : -B ≤ x) (h2 : x ≤ B) : -B ≤ x.tdiv y ∧ x.tdiv y ≤ B := by
  have := Int.natAbs_tdiv_le_natAbs x y
  omega
/-- A fraction made of a numerator and a denominator, if there is one. -/
def mkFr (n d : Int) : (Int × Int) × Bool := if d = 0 then ((0, 0), false) else if isFr (lowN n d) (lowD n d) then ((lowN n d, lowD n d), true) else ((0, 0), false)
theorem mkFr_zero (n : Int) : mkFr n 0 = ((0, 0), false) := by simp [mkFr]
theorem mkFr_yes {n d : Int} (hd : d ≠ 0) (h : isFr (lowN n d) (lowD n d) = true) : mkFr n d = ((lowN n d, lowD n d), true) := by rw [mkFr, if_neg hd, h]; rfl
theorem mkFr_no {n d : Int} (hd : d ≠ 0) (h : isFr (lowN n d) (lowD n d) = false) : mkFr n d = ((0, 0), false) := by rw [mkFr, if_neg hd, h]; rfl

def pFracOf (n d : Int) : (Int × Int) × Bool :=
  if decide (-1000000000000 ≤ n ∧ n ≤ 1000000000000 ∧ -1000000000000 ≤ d ∧ d ≤ 1000000000000) then mkFr n d else ((0, 0), false)
def twoFr (a b c d : Int) : Bool := isFr a b && isFr c d
def pAdd (a b c d : Int) : (Int × Int) × Bool := if twoFr a b c d then mkFr (a * d + c * b) (b * d) else ((0, 0), false)
def pSub (a b c d : Int) : (Int × Int) × Bool := if twoFr a b c d then mkFr (a * d - c * b) (b * d) else ((0, 0), false)
def pMul (a b c d : Int) : (Int × Int) × Bool := if twoFr a b c d then mkFr (a * c) (b * d) else ((0, 0), false)
def pDiv (a b c d : Int) : (Int × Int) × Bool := if twoFr a b c d then mkFr (a * d) (b * c) else ((0, 0), false)
def sgn (n : Int) : Int := if n < 0 then -1 else if 0 < n then 1 else 0
def pCmp (a b c d : Int) : Int × Bool := if twoFr a b c d then (sgn (a * d - c * b), true) else (0, false)
def pFloor (a b : Int) : Int × Bool := if isFr a b then (a / b, true) else (0, false)
def pCeil (a b : Int) : Int × Bool := if isFr a b then (-((-a) / b), true) else (0, false)

theorem mul_bd {x y A B : Int} (hx : -A ≤ x) (hx' : x ≤ A) (hy : -B ≤ y) (hy' : y ≤ B) : -(A * B) ≤ x * y ∧ x * y ≤ A * B := by
  have h1 : (x * y).natAbs ≤ A.natAbs * B.natAbs := by
    rw [Int.natAbs_mul]
    exact Nat.mul_le_mul (by omega) (by omega)
  have h2 : ((A.natAbs * B.natAbs : Nat) : Int) = A * B := by
    rw [Int.natCast_mul, Int.natAbs_of_nonneg (by omega), Int.natAbs_of_nonneg (by omega)]
  omega
theorem bd18 {x y : Int} (hx : -1000000000 ≤ x) (hx' : x ≤ 1000000000) (hy : -1000000000 ≤ y) (hy' : y ≤ 1000000000) : -1000000000000000000 ≤ x * y ∧ x * y ≤ 1000000000000000000 := by
  have := mul_bd hx hx' hy hy'
  omega
theorem mul_pos_ne {x y : Int} (hx : 1 ≤ x) (hy : 1 ≤ y) : x * y ≠ 0 := by
  have : 0 < x * y := Int.mul_pos (by omega) (by omega)
  omega

/-- Rounding down: Go's division goes toward zero. -/
theorem floor_neg {a b : Int} (hb : 1 ≤ b) (h : a.tmod b < 0) : a.tdiv b - 1 = a / b := by
  have h1 := Int.tmod_add_mul_tdiv a b
  have h2 := Int.emod_add_mul_ediv a b
  have h3 := Int.emod_nonneg a (show b ≠ 0 by omega)
  have h4 := Int.emod_lt_of_pos a (show 0 < b by omega)
  have h5 := Int.lt_tmod_of_pos a (show 0 < b by omega)
  have h6 : b * (a / b - a.tdiv b) = a.tmod b - a % b := by rw [Int.mul_sub]; omega
  have h7 : b * (a / b - a.tdiv b) < 0 := by omega
  have h8 : -2 * b < b * (a / b - a.tdiv b) := by omega
  have h9 : a / b - a.tdiv b < 0 := by
    rcases Int.lt_or_le (a / b - a.tdiv b) 0 with h | h
    · exact h
    · have := Int.mul_nonneg (show 0 ≤ b by omega) h
      omega
  have h10 : -2 < a / b - a.tdiv b := by
    rcases Int.lt_or_le (-2) (a / b - a.tdiv b) with h | h
    · exact h
    · have := Int.mul_le_mul_of_nonneg_left h (show 0 ≤ b by omega)
      have : b * -2 = -2 * b := Int.mul_comm _ _
      omega
  omega
theorem floor_pos {a b : Int} (hb : 1 ≤ b) (h : 0 ≤ a.tmod b) : a.tdiv b = a / b := by
  have h1 := Int.tmod_add_mul_tdiv a b
  have h4 := Int.tmod_lt_of_pos a (show 0 < b by omega)
  have h2 : a / b = a.tdiv b := by
    rw [Int.ediv_eq_iff_of_pos (show 0 < b by omega)]
    rw [Int.mul_comm] at h1
    constructor
    · omega
    · omega
  exact h2.symm
theorem floor_bd {a b : Int} (hb : 1 ≤ b) (h1 : -1000000000 ≤ a) (h2 : a ≤ 1000000000) : -1000000001 ≤ a / b ∧ a / b ≤ 1000000001 := by
  have h3 := tdiv_bd (x := a) (y := b) (by omega) h1 h2
  rcases Int.lt_or_le (a.tmod b) 0 with h | h
  · rw [← floor_neg hb h]; omega
  · rw [← floor_pos hb h]; omega
theorem tmod_neg_iff {a b : Int} (_hb : 1 ≤ b) : a.tmod b < 0 ↔ a < 0 ∧ a.tmod b ≠ 0 := by
  constructor
  · intro h
    refine ⟨?_, by omega⟩
    rcases Int.lt_or_le a 0 with h1 | h1
    · exact h1
    · have := Int.tmod_nonneg b h1
      omega
  · rintro ⟨h1, h2⟩
    rcases Int.lt_or_le (a.tmod b) 0 with h | h
    · exact h
    · have h3 : (-a).tmod b = -(a.tmod b) := Int.neg_tmod a b
      have h4 := Int.tmod_nonneg b (show 0 ≤ -a by omega)
      omega
end Go.Proofs.Yteadfobnoapdhaa
