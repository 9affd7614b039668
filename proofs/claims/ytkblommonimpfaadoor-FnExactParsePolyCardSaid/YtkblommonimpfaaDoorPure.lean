/- What the functions on numbers compute, as plain functions on integers and lists: no program is named here. -/
import Derived.Test.YtkblommonimpfaaDoorBase
namespace Go.Proofs.YtkblommonimpfaaDoor
open Go.RowKit

def inf : Int := 1000000000
def isFin (n : Int) : Bool := decide (-1000000 ≤ n) && decide (n ≤ 1000000)
def isNum (n : Int) : Bool := isFin n || n == 1000000000
theorem isFin_iff (n : Int) : isFin n = true ↔ -1000000 ≤ n ∧ n ≤ 1000000 := by simp [isFin]
theorem isNum_iff (n : Int) : isNum n = true ↔ (-1000000 ≤ n ∧ n ≤ 1000000) ∨ n = 1000000000 := by simp [isNum, isFin]
theorem isNum_no (n : Int) : isNum n = false ↔ ¬ ((-1000000 ≤ n ∧ n ≤ 1000000) ∨ n = 1000000000) := by rw [← isNum_iff]; simp
theorem isFin_no (n : Int) : isFin n = false ↔ ¬ (-1000000 ≤ n ∧ n ≤ 1000000) := by rw [← isFin_iff]; simp
theorem isNum_bd {n : Int} (h : isNum n = true) : -1000000 ≤ n ∧ n ≤ 1000000000 := by rw [isNum_iff] at h; omega

/-- The tropical product. -/
def prod (a b : Int) : Int := if a = 1000000000 ∨ b = 1000000000 then 1000000000 else a + b
theorem prod_cases {a b : Int} {x y : Bool} (h : (a == 1000000000) = x) (k : (b == 1000000000) = y) : (if x || y then 1000000000 else a + b) = prod a b := by
  subst h; subst k
  simp [prod]
/-- A number, if it is one. -/
def told (n : Int) : Int × Bool := if isNum n then (n, true) else (0, false)
theorem told_yes {n : Int} (h : isNum n = true) : told n = (n, true) := by simp [told, h]
theorem told_no {n : Int} (h : isNum n = false) : told n = (0, false) := by simp [told, h]

def pTropSum (a b : Int) : Int × Bool := if isNum a && isNum b then (min a b, true) else (0, false)
def pTropProduct (a b : Int) : Int × Bool := if isNum a && isNum b then told (prod a b) else (0, false)
def pTropQuotient (a b : Int) : Int × Bool := if isNum a && isNum b && !(b == 1000000000) then told (prod a (-b)) else (0, false)
def pPow (a : Int) : Nat → Int
  | 0 => 0
  | k + 1 => prod (pPow a k) a
def pTropPower (a k : Int) : Int × Bool := if isNum a && (decide (0 ≤ k) && decide (k ≤ 20)) then told (pPow a k.toNat) else (0, false)

theorem pPow_fin {a : Int} (ha : -1000000 ≤ a ∧ a ≤ 1000000) : ∀ k : Nat, k ≤ 20 → pPow a k = (k : Int) * a := by
  intro k
  induction k with
  | zero => intro _; simp [pPow]
  | succ k ih =>
    intro hk
    have h1 := ih (by omega)
    have h2 : (k : Int) * a ≤ 20000000 ∧ -20000000 ≤ (k : Int) * a := by
      have : (k : Int) ≤ 20 := by omega
      have h0 : (0 : Int) ≤ k := by omega
      constructor
      · calc (k : Int) * a ≤ k * 1000000 := Int.mul_le_mul_of_nonneg_left ha.2 h0
          _ ≤ 20000000 := by omega
      · calc (-20000000 : Int) ≤ k * (-1000000) := by omega
          _ ≤ k * a := Int.mul_le_mul_of_nonneg_left ha.1 h0
    rw [pPow, h1, prod, if_neg (by omega)]
    rw [Int.natCast_succ, Int.add_mul, Int.one_mul]
theorem pPow_inf : ∀ k : Nat, pPow 1000000000 (k + 1) = 1000000000 := by
  intro k; rw [pPow, prod, if_pos (.inr rfl)]

theorem pPow_bd {a : Int} (h : isNum a = true) : ∀ k : Nat, k ≤ 20 → -20000000 ≤ pPow a k ∧ pPow a k ≤ 1000000000 := by
  intro k hk
  rcases (isNum_iff a).1 h with hf | rfl
  · rw [pPow_fin hf k hk]
    have h0 : (0 : Int) ≤ k := by omega
    constructor
    · calc (-20000000 : Int) ≤ k * (-1000000) := by omega
        _ ≤ k * a := Int.mul_le_mul_of_nonneg_left hf.1 h0
    · calc (k : Int) * a ≤ k * 1000000 := Int.mul_le_mul_of_nonneg_left hf.2 h0
        _ ≤ 1000000000 := by omega
  · cases k with
    | zero => simp [pPow]
    | succ k => rw [pPow_inf]; omega
/-- The least of the first k. -/
def leastTo (zs : List Int) : Nat → Int
  | 0 => 1000000000
  | k + 1 => min (leastTo zs k) (zs.getD k 0)
def least (zs : List Int) : Int := leastTo zs zs.length
def placesTo (zs : List Int) (n : Int) : Nat → List Int
  | 0 => []
  | k + 1 => placesTo zs n k ++ (if zs.getD k 0 = n then [(k : Int)] else [])
def places (zs : List Int) (n : Int) : List Int := placesTo zs n zs.length
def isList (zs : List Int) : Bool := decide (zs.length ≤ 20) && zs.all isNum
def pVan (zs : List Int) : Bool := least zs == 1000000000 || decide (1 < (places zs (least zs)).length)
def pTropSumOf (zs : List Int) : Int × Bool := if isList zs then (least zs, true) else (0, false)
def pLeastPlaces (zs : List Int) : List Int × Bool := if isList zs then (places zs (least zs), true) else ([], false)
def pDoesVanish (zs : List Int) : Bool × Bool := if isList zs then (pVan zs, true) else (false, false)
def dotTo (xs ys : List Int) : Nat → Int
  | 0 => 1000000000
  | k + 1 => min (dotTo xs ys k) (prod (xs.getD k 0) (ys.getD k 0))
def pTropDot (xs ys : List Int) : Int × Bool := if isList xs && isList ys && xs.length == ys.length then told (dotTo xs ys xs.length) else (0, false)
def shifted (zs : List Int) (d : Int) : List Int := zs.map (prod · d)
def toldList (zs : List Int) : List Int × Bool := if zs.all isNum then (zs, true) else ([], false)
def pShiftList (zs : List Int) (d : Int) : List Int × Bool := if isList zs && isFin d then toldList (shifted zs d) else ([], false)
def pNormalList (zs : List Int) : List Int × Int × Bool :=
  if isList zs && !(least zs == 1000000000) then
    if (toldList (shifted zs (-least zs))).2 then (shifted zs (-least zs), least zs, true) else ([], 0, false)
  else ([], 0, false)

theorem shift_stop {zs : List Int} {d : Int} {k : Nat} (hk : k < zs.length) (hp : isNum (prod (zs.getD k 0) d) = false) : (shifted zs d).all isNum = false := by
  rw [← Bool.not_eq_true, List.all_eq_true]
  intro hh
  have := hh (prod (zs.getD k 0) d) (List.mem_map.2 ⟨_, getD_mem hk, rfl⟩)
  rw [hp] at this
  cases this
theorem placesTo_len (zs : List Int) (n : Int) : ∀ k, (placesTo zs n k).length ≤ k
  | 0 => Nat.le_refl _
  | k + 1 => by
    have := placesTo_len zs n k
    rw [placesTo, List.length_append]
    split <;> simp <;> omega
theorem leastTo_bd {zs : List Int} (h : zs.all isNum = true) : ∀ k, k ≤ zs.length → -1000000 ≤ leastTo zs k ∧ leastTo zs k ≤ 1000000000
  | 0, _ => by simp [leastTo]
  | k + 1, hk => by
    have h1 := leastTo_bd h k (by omega)
    have h2 := isNum_bd (List.all_eq_true.1 h _ (getD_mem (show k < zs.length by omega)))
    rw [leastTo]
    omega
theorem least_bd {zs : List Int} (h : zs.all isNum = true) : -1000000 ≤ least zs ∧ least zs ≤ 1000000000 := leastTo_bd h _ (Nat.le_refl _)
theorem leastTo_num {zs : List Int} (h : zs.all isNum = true) : ∀ k, k ≤ zs.length → isNum (leastTo zs k) = true
  | 0, _ => by simp [leastTo, isNum]
  | k + 1, hk => by
    have h1 := leastTo_num h k (by omega)
    have h2 := List.all_eq_true.1 h _ (getD_mem (show k < zs.length by omega))
    rw [leastTo]
    rw [isNum_iff] at *
    omega
theorem least_num {zs : List Int} (h : zs.all isNum = true) : isNum (least zs) = true := leastTo_num h _ (Nat.le_refl _)
theorem isList_len {zs : List Int} (h : isList zs = true) : zs.length ≤ 20 := by simp [isList] at h; exact h.1
theorem isList_all {zs : List Int} (h : isList zs = true) : zs.all isNum = true := by simp only [isList, Bool.and_eq_true] at h; exact h.2
end Go.Proofs.YtkblommonimpfaaDoor
