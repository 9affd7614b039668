/- What the functions on polynomials compute, as plain functions on lists: no program is named here. -/
import Derived.Test.YtkblommonimpfaaDoorPure
namespace Go.Proofs.YtkblommonimpfaaDoor
open Go.RowKit

/-- A polynomial. -/
def isPol (p : List Int) : Bool := decide (1 ≤ p.length ∧ p.length ≤ 13) && p.all isNum && !(p.getD (p.length - 1) 0 == 1000000000)
theorem isPol_len {p : List Int} (h : isPol p = true) : 1 ≤ p.length ∧ p.length ≤ 13 := by simp only [isPol, Bool.and_eq_true, decide_eq_true_eq] at h; exact h.1.1
theorem isPol_all {p : List Int} (h : isPol p = true) : p.all isNum = true := by simp only [isPol, Bool.and_eq_true, decide_eq_true_eq] at h; exact h.1.2
theorem isPol_last {p : List Int} (h : isPol p = true) : -1000000 ≤ p.getD (p.length - 1) 0 ∧ p.getD (p.length - 1) 0 ≤ 1000000 := by
  have hl := isPol_len h
  have ha := List.all_eq_true.1 (isPol_all h) _ (getD_mem (show p.length - 1 < p.length by omega))
  simp only [isPol, Bool.and_eq_true, Bool.not_eq_true', beq_eq_false_iff_ne] at h
  have := h.2
  rw [isNum_iff] at ha
  omega
def toldPol (p : List Int) : List Int × Bool := if isPol p then (p, true) else ([], false)

/-- The values of the first k terms at x. -/
def valsTo (p : List Int) (x : Int) : Nat → List Int
  | 0 => []
  | k + 1 => valsTo p x k ++ [prod (p.getD k 0) ((k : Int) * x)]
def vals (p : List Int) (x : Int) : List Int := valsTo p x p.length
theorem valsTo_len (p : List Int) (x : Int) : ∀ k, (valsTo p x k).length = k
  | 0 => rfl
  | k + 1 => by rw [valsTo, List.length_append, valsTo_len p x k]; rfl
theorem vals_len (p : List Int) (x : Int) : (vals p x).length = p.length := valsTo_len p x _
theorem valsTo_at (p : List Int) (x : Int) : ∀ (k j : Nat), j < k → (valsTo p x k).getD j 0 = prod (p.getD j 0) ((j : Int) * x)
  | 0, _, h => absurd h (by omega)
  | k + 1, j, h => by
    rw [valsTo]
    by_cases hj : j < k
    · rw [getD_app_l (by rw [valsTo_len]; exact hj)]
      exact valsTo_at p x k j hj
    · obtain rfl : j = k := by omega
      rw [getD_app_r (by rw [valsTo_len]; exact Nat.le_refl _), valsTo_len, Nat.sub_self]
      rfl
theorem vals_at {p : List Int} {x : Int} {j : Nat} (h : j < p.length) : (vals p x).getD j 0 = prod (p.getD j 0) ((j : Int) * x) := valsTo_at p x _ j h
theorem term_bd {x : Int} {i : Nat} (hx : -1000000 ≤ x ∧ x ≤ 1000000) (hi : i ≤ 13) : -13000000 ≤ (i : Int) * x ∧ (i : Int) * x ≤ 13000000 := by
  have h0 : (0 : Int) ≤ i := by omega
  constructor
  · calc (-13000000 : Int) ≤ i * (-1000000) := by omega
      _ ≤ i * x := Int.mul_le_mul_of_nonneg_left hx.1 h0
  · calc (i : Int) * x ≤ i * 1000000 := Int.mul_le_mul_of_nonneg_left hx.2 h0
      _ ≤ 13000000 := by omega
theorem prod_bd {a b : Int} (ha : isNum a = true) (hb : -13000000 ≤ b) (hb' : b ≤ 13000000) : -14000000 ≤ prod a b ∧ prod a b ≤ 1000000000 := by
  rw [isNum_iff] at ha
  unfold prod
  split <;> omega
theorem vals_bd {p : List Int} {x : Int} (hp : isPol p = true) (hx : isFin x = true) {j : Nat} (h : j < p.length) : -14000000 ≤ (vals p x).getD j 0 ∧ (vals p x).getD j 0 ≤ 1000000000 := by
  rw [vals_at h]
  have hl := isPol_len hp
  have := term_bd (i := j) ((isFin_iff x).1 hx) (by omega)
  exact prod_bd (List.all_eq_true.1 (isPol_all hp) _ (getD_mem h)) this.1 this.2
/-- The last term is finite: so is the value. -/
theorem vals_last {p : List Int} {x : Int} (hp : isPol p = true) (hx : isFin x = true) : -14000000 ≤ (vals p x).getD (p.length - 1) 0 ∧ (vals p x).getD (p.length - 1) 0 ≤ 14000000 := by
  have hl := isPol_len hp
  have h1 := isPol_last hp
  rw [vals_at (show p.length - 1 < p.length by omega)]
  have := term_bd (i := p.length - 1) ((isFin_iff x).1 hx) (by omega)
  unfold prod
  rw [if_neg (by omega)]
  omega

theorem leastTo_le (zs : List Int) : ∀ (k j : Nat), j < k → leastTo zs k ≤ zs.getD j 0
  | 0, _, h => absurd h (by omega)
  | k + 1, j, h => by
    rw [leastTo]
    by_cases hj : j < k
    · have := leastTo_le zs k j hj
      omega
    · obtain rfl : j = k := by omega
      omega
theorem least_le {zs : List Int} {j : Nat} (h : j < zs.length) : least zs ≤ zs.getD j 0 := leastTo_le zs _ j h
theorem leastTo_ge {zs : List Int} {m : Int} (hm : m ≤ 1000000000) : ∀ k, (∀ j, j < k → m ≤ zs.getD j 0) → m ≤ leastTo zs k
  | 0, _ => by simpa [leastTo] using hm
  | k + 1, h => by
    have h1 := leastTo_ge hm k fun j hj => h j (by omega)
    have h2 := h k (by omega)
    rw [leastTo]
    omega
theorem leastTo_at (zs : List Int) : ∀ k, leastTo zs k = 1000000000 ∨ ∃ j, j < k ∧ zs.getD j 0 = leastTo zs k
  | 0 => .inl rfl
  | k + 1 => by
    rw [leastTo]
    rcases leastTo_at zs k with h | ⟨j, hj, h⟩
    · by_cases hk : zs.getD k 0 < leastTo zs k
      · exact .inr ⟨k, by omega, by omega⟩
      · exact .inl (by omega)
    · by_cases hk : zs.getD k 0 < leastTo zs k
      · exact .inr ⟨k, by omega, by omega⟩
      · exact .inr ⟨j, by omega, by omega⟩
theorem value_bd {p : List Int} {x : Int} (hp : isPol p = true) (hx : isFin x = true) : -14000000 ≤ least (vals p x) ∧ least (vals p x) ≤ 14000000 := by
  have hl := isPol_len hp
  have h1 := vals_last hp hx
  have h2 := least_le (zs := vals p x) (j := p.length - 1) (by rw [vals_len]; omega)
  refine ⟨leastTo_ge (by omega) _ fun j hj => (vals_bd hp hx (by rwa [vals_len] at hj)).1, by omega⟩
theorem value_num {p : List Int} {x : Int} (hp : isPol p = true) (hx : isFin x = true) : isNum (least (vals p x)) = isFin (least (vals p x)) := by
  have := value_bd hp hx
  rw [isNum, show (least (vals p x) == 1000000000) = false from by rw [beq_eq_false_iff_ne]; omega, Bool.or_false]
theorem placesTo_mem {zs : List Int} {n : Int} : ∀ (k j : Nat), j < k → zs.getD j 0 = n → (j : Int) ∈ placesTo zs n k
  | 0, _, h, _ => absurd h (by omega)
  | k + 1, j, h, e => by
    rw [placesTo]
    by_cases hj : j < k
    · exact List.mem_append_left _ (placesTo_mem k j hj e)
    · obtain rfl : j = k := by omega
      rw [if_pos e]
      exact List.mem_append_right _ (List.mem_singleton.2 rfl)
theorem places_pos {p : List Int} {x : Int} (hp : isPol p = true) (hx : isFin x = true) : 0 < (places (vals p x) (least (vals p x))).length := by
  have := value_bd hp hx
  rcases leastTo_at (vals p x) (vals p x).length with h | ⟨j, hj, h⟩
  · unfold least at this
    omega
  · exact List.length_pos_of_mem (placesTo_mem _ j hj h)

def pPolyValue (p : List Int) (x : Int) : Int × Bool := if isPol p && isFin x then told (least (vals p x)) else (0, false)
def asked (p : List Int) (x : Int) : Bool := isPol p && isFin x && isFin (least (vals p x))
theorem asked_parts {p : List Int} {x : Int} (h : asked p x = true) : isPol p = true ∧ isFin x = true := by
  simp only [asked, Bool.and_eq_true] at h
  exact h.1
theorem pPolyValue_asked (p : List Int) (x : Int) : pPolyValue p x = if asked p x then (least (vals p x), true) else (0, false) := by
  unfold pPolyValue asked
  cases hp : isPol p <;> cases hx : isFin x
  case true.true =>
    have := value_num hp hx
    simp only [Bool.and_self, if_true, Bool.true_and]
    rw [told, this]
  all_goals rfl
def lplaces (p : List Int) (x : Int) : List Int := places (vals p x) (least (vals p x))
def pLeastTerms (p : List Int) (x : Int) : List Int × Bool := if asked p x then (lplaces p x, true) else ([], false)
def pSlopesAt (p : List Int) (x : Int) : Int × Int × Bool := if asked p x then ((lplaces p x).getD ((lplaces p x).length - 1) 0, (lplaces p x).getD 0 0, true) else (0, 0, false)

/-- A coefficient, infinite where there is none. -/
def coef (p : List Int) (i : Nat) : Int := p.getD i 1000000000
theorem coef_in {p : List Int} {i : Nat} (h : i < p.length) : coef p i = p.getD i 0 := by simp [coef, List.getD, List.getElem?_eq_getElem h]
theorem coef_out {p : List Int} {i : Nat} (h : p.length ≤ i) : coef p i = 1000000000 := by simp [coef, List.getD, List.getElem?_eq_none h]
theorem coef_num {p : List Int} (h : p.all isNum = true) (i : Nat) : isNum (coef p i) = true := by
  by_cases hi : i < p.length
  · rw [coef_in hi]; exact List.all_eq_true.1 h _ (getD_mem hi)
  · rw [coef_out (by omega)]; rfl
def psumTo (p q : List Int) : Nat → List Int
  | 0 => []
  | k + 1 => psumTo p q k ++ [min (coef p k) (coef q k)]
theorem psumTo_len (p q : List Int) : ∀ k, (psumTo p q k).length = k
  | 0 => rfl
  | k + 1 => by rw [psumTo, List.length_append, psumTo_len p q k]; rfl
def pPolySum (p q : List Int) : List Int × Bool := if isPol p && isPol q then (psumTo p q (max p.length q.length), true) else ([], false)

/-- The coefficient n of a product, by the first i terms of p. -/
def convTo (p q : List Int) (n : Nat) : Nat → Int
  | 0 => 1000000000
  | i + 1 => if i ≤ n then min (convTo p q n i) (prod (coef p i) (coef q (n - i))) else convTo p q n i
def pprodTo (p q : List Int) : Nat → List Int
  | 0 => []
  | n + 1 => pprodTo p q n ++ [convTo p q n (n + 1)]
def pprod (p q : List Int) : List Int := pprodTo p q (p.length + q.length - 1)
def pPolyProduct (p q : List Int) : List Int × Bool := if isPol p && isPol q then toldPol (pprod p q) else ([], false)
theorem pprodTo_len (p q : List Int) : ∀ k, (pprodTo p q k).length = k
  | 0 => rfl
  | k + 1 => by rw [pprodTo, List.length_append, pprodTo_len p q k]; rfl
theorem pprodTo_at (p q : List Int) : ∀ (k n : Nat), n < k → (pprodTo p q k).getD n 0 = convTo p q n (n + 1)
  | 0, _, h => absurd h (by omega)
  | k + 1, n, h => by
    rw [pprodTo]
    by_cases hn : n < k
    · rw [getD_app_l (by rw [pprodTo_len]; exact hn)]
      exact pprodTo_at p q k n hn
    · obtain rfl : n = k := by omega
      rw [getD_app_r (by rw [pprodTo_len]; exact Nat.le_refl _), pprodTo_len, Nat.sub_self]
      rfl
theorem convTo_le (p q : List Int) (n : Nat) : ∀ i, convTo p q n i ≤ 1000000000
  | 0 => Int.le_refl _
  | i + 1 => by
    have := convTo_le p q n i
    rw [convTo]
    split <;> omega
/-- Terms beyond p's own add nothing. -/
theorem convTo_more (p q : List Int) (n : Nat) : ∀ i, p.length ≤ i → convTo p q n i = convTo p q n p.length
  | 0, h => by rw [show p.length = 0 from by omega]
  | i + 1, h => by
    by_cases hi : p.length = i + 1
    · rw [hi]
    · rw [convTo, convTo_more p q n i (by omega)]
      split
      · have h1 : prod (coef p i) (coef q (n - i)) = 1000000000 := by rw [prod, if_pos (.inl (coef_out (by omega)))]
        have := convTo_le p q n p.length
        omega
      · rfl
theorem convTo_past (p q : List Int) (n : Nat) : ∀ i, n + 1 ≤ i → convTo p q n i = convTo p q n (n + 1)
  | 0, h => absurd h (by omega)
  | i + 1, h => by
    by_cases hi : i = n
    · rw [hi]
    · rw [convTo, if_neg (by omega)]
      exact convTo_past p q n i (by omega)
theorem convTo_all (p q : List Int) (n : Nat) : convTo p q n (n + 1) = convTo p q n p.length := by
  rcases Nat.le_total (n + 1) p.length with h | h
  · exact (convTo_past p q n _ h).symm
  · exact convTo_more p q n _ h
theorem convTo_bd {p q : List Int} (hp : p.all isNum = true) (hq : q.all isNum = true) (n : Nat) : ∀ i, -2000000 ≤ convTo p q n i ∧ convTo p q n i ≤ 1000000000
  | 0 => by simp [convTo]
  | i + 1 => by
    have h1 := convTo_bd hp hq n i
    have h2 := (isNum_iff _).1 (coef_num hp i)
    have h3 := (isNum_iff _).1 (coef_num hq (n - i))
    have h4 : -2000000 ≤ prod (coef p i) (coef q (n - i)) := by unfold prod; split <;> omega
    rw [convTo]
    split <;> omega

def ppowTo (p : List Int) : Nat → List Int × Bool
  | 0 => ([0], true)
  | k + 1 => if (ppowTo p k).2 then toldPol (pprod (ppowTo p k).1 p) else ([], false)
def pPolyPower (p : List Int) (k : Int) : List Int × Bool := if isPol p && (decide (0 ≤ k) && decide (k ≤ 12)) then ppowTo p k.toNat else ([], false)
def pMovePoly (p : List Int) (d : Int) : List Int × Bool := if isPol p && isFin d then toldList (vals p d) else ([], false)
theorem vals_pol {p : List Int} {d : Int} (hp : isPol p = true) (hd : isFin d = true) : isPol (vals p d) = (vals p d).all isNum := by
  have hl := isPol_len hp
  have h1 := vals_last hp hd
  rw [isPol, vals_len, show decide (1 ≤ p.length ∧ p.length ≤ 13) = true from by simpa using hl,
    show ((vals p d).getD (p.length - 1) 0 == 1000000000) = false from by rw [beq_eq_false_iff_ne]; omega]
  simp
theorem toldPol_ok {p : List Int} (h : (toldPol p).2 = true) : isPol p = true ∧ toldPol p = (p, true) := by
  unfold toldPol at *
  cases hp : isPol p <;> simp [hp] at h ⊢
theorem ppowTo_pol (p : List Int) : ∀ k, (ppowTo p k).2 = true → isPol (ppowTo p k).1 = true
  | 0, _ => by simp only [ppowTo]; decide
  | k + 1, h => by
    rw [ppowTo] at h ⊢
    split at h
    · rename_i hk
      rw [if_pos hk]
      have := toldPol_ok h
      rw [this.2]
      exact this.1
    · simp at h
end Go.Proofs.YtkblommonimpfaaDoor
