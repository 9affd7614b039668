/- Plane polynomials in plain Lean: a list of terms (i, j, c). No program in sight. -/
import Derived.Test.YtmhbkljnilonkaaDoorPurePoly
import Derived.Test.YtmhbkljnilonkaaDoorTrm
namespace Go.Proofs.YtmhbkljnilonkaaDoor
def isTrm (t : Trm) : Bool := decide (0 ≤ t.1) && decide (t.1 ≤ 6) && (decide (0 ≤ t.2.1) && decide (t.2.1 ≤ 6 - t.1)) && isFin t.2.2
theorem isTrm_iff (t : Trm) : isTrm t = true ↔ (0 ≤ t.1 ∧ t.1 ≤ 6) ∧ (0 ≤ t.2.1 ∧ t.2.1 ≤ 6 - t.1) ∧ -1000000 ≤ t.2.2 ∧ t.2.2 ≤ 1000000 := by
  simp only [isTrm, Bool.and_eq_true, decide_eq_true_eq, isFin_iff, and_assoc]
/-- The order of the exponents. -/
def ltT (a b : Trm) : Bool := decide (a.1 < b.1) || (decide (a.1 = b.1) && decide (a.2.1 < b.2.1))
theorem ltT_iff (a b : Trm) : ltT a b = true ↔ a.1 < b.1 ∨ a.1 = b.1 ∧ a.2.1 < b.2.1 := by simp [ltT]
def cmpT (a b : Trm) : Int := if a.1 = b.1 then a.2.1 - b.2.1 else a.1 - b.1
theorem cmpT_yes {a b : Trm} (h : ltT a b = true) : cmpT a b < 0 := by
  rw [ltT_iff] at h
  unfold cmpT
  split <;> omega
theorem cmpT_no {a b : Trm} (h : ltT a b = false) : 0 ≤ cmpT a b := by
  have h' : ¬ (a.1 < b.1 ∨ a.1 = b.1 ∧ a.2.1 < b.2.1) := by rw [← ltT_iff, h]; simp
  unfold cmpT
  split <;> omega
/-- Is the term at place k fine, and behind the one before it? -/
def okAt (l : List Trm) (k : Nat) : Bool := isTrm (l.getD k (0, 0, 0)) && (decide (k = 0) || ltT (l.getD (k - 1) (0, 0, 0)) (l.getD k (0, 0, 0)))
def okTo (l : List Trm) : Nat → Bool
  | 0 => true
  | k + 1 => okTo l k && okAt l k
def isPlane (l : List Trm) : Bool := (decide (1 ≤ (l.length : Int)) && decide ((l.length : Int) ≤ 12)) && okTo l l.length
theorem okTo_down {l : List Trm} : ∀ {m k : Nat}, okTo l m = true → k ≤ m → okTo l k = true
  | 0, k, h, hk => by rw [show k = 0 from by omega]; rfl
  | m + 1, k, h, hk => by
    by_cases e : k = m + 1
    · rw [e]; exact h
    · rw [okTo, Bool.and_eq_true] at h
      exact okTo_down h.1 (by omega)
theorem okTo_at {l : List Trm} {m k : Nat} (h : okTo l m = true) (hk : k < m) : okAt l k = true := by
  have := okTo_down h (show k + 1 ≤ m by omega)
  rw [okTo, Bool.and_eq_true] at this
  exact this.2
theorem okTo_fail {l : List Trm} {m k : Nat} (h : okAt l k = false) (hk : k < m) : okTo l m = false := by
  cases e : okTo l m
  · rfl
  · rw [okTo_at e hk] at h
    cases h
theorem okTo_trm {l : List Trm} {m k : Nat} (h : okTo l m = true) (hk : k < m) : isTrm (l.getD k (0, 0, 0)) = true := by
  have := okTo_at h hk
  rw [okAt, Bool.and_eq_true] at this
  exact this.1
theorem isPlane_len {l : List Trm} (h : isPlane l = true) : 1 ≤ l.length ∧ l.length ≤ 12 := by
  simp only [isPlane, Bool.and_eq_true, decide_eq_true_eq] at h
  omega
theorem isPlane_ok {l : List Trm} (h : isPlane l = true) : okTo l l.length = true := by
  simp only [isPlane, Bool.and_eq_true] at h
  exact h.2
theorem isPlane_trm {l : List Trm} (h : isPlane l = true) {k : Nat} (hk : k < l.length) : (0 ≤ (l.getD k (0, 0, 0)).1 ∧ (l.getD k (0, 0, 0)).1 ≤ 6) ∧ (0 ≤ (l.getD k (0, 0, 0)).2.1 ∧ (l.getD k (0, 0, 0)).2.1 ≤ 6 - (l.getD k (0, 0, 0)).1) ∧ -1000000 ≤ (l.getD k (0, 0, 0)).2.2 ∧ (l.getD k (0, 0, 0)).2.2 ≤ 1000000 :=
  (isTrm_iff _).1 (okTo_trm (isPlane_ok h) hk)
/- The greatest sum of exponents. -/
def degTo (l : List Trm) : Nat → Int
  | 0 => 0
  | k + 1 => max (degTo l k) ((l.getD k (0, 0, 0)).1 + (l.getD k (0, 0, 0)).2.1)
def pTotal (l : List Trm) : Int × Bool := if isPlane l then (degTo l l.length, true) else (0, false)
/- The values of the terms. -/
def valT (t : Trm) (x y : Int) : Int := t.2.2 + t.1 * x + t.2.1 * y
def valsT (l : List Trm) (x y : Int) : Nat → List Int
  | 0 => []
  | k + 1 => valsT l x y k ++ [valT (l.getD k (0, 0, 0)) x y]
theorem valsT_len (l : List Trm) (x y : Int) : ∀ k, (valsT l x y k).length = k
  | 0 => rfl
  | k + 1 => by rw [valsT, List.length_append, valsT_len l x y k]; rfl
theorem mul6 {a x : Int} (h0 : 0 ≤ a) (h1 : a ≤ 6) (h2 : -1000000 ≤ x) (h3 : x ≤ 1000000) : -6000000 ≤ a * x ∧ a * x ≤ 6000000 := by
  rcases (show a = 0 ∨ a = 1 ∨ a = 2 ∨ a = 3 ∨ a = 4 ∨ a = 5 ∨ a = 6 by omega) with rfl | rfl | rfl | rfl | rfl | rfl | rfl <;> omega
theorem valT_bd {t : Trm} {x y : Int} (ht : (0 ≤ t.1 ∧ t.1 ≤ 6) ∧ (0 ≤ t.2.1 ∧ t.2.1 ≤ 6 - t.1) ∧ -1000000 ≤ t.2.2 ∧ t.2.2 ≤ 1000000) (hx : isFin x = true) (hy : isFin y = true) : -13000000 ≤ valT t x y ∧ valT t x y ≤ 13000000 := by
  rw [isFin_iff] at hx hy
  have h1 := mul6 ht.1.1 ht.1.2 hx.1 hx.2
  have h2 := mul6 (a := t.2.1) (by omega) (by omega) hy.1 hy.2
  unfold valT
  omega
theorem valsT_bd {l : List Trm} {x y : Int} (h : isPlane l = true) (hx : isFin x = true) (hy : isFin y = true) : ∀ k, k ≤ l.length → ∀ z ∈ valsT l x y k, -13000000 ≤ z ∧ z ≤ 13000000
  | 0, _ => by simp [valsT]
  | k + 1, hk => by
    intro z hz
    rw [valsT] at hz
    rcases List.mem_append.1 hz with hz | hz
    · exact valsT_bd h hx hy k (by omega) z hz
    · simp at hz
      subst hz
      exact valT_bd (isPlane_trm h (by omega)) hx hy
def askedT (l : List Trm) (x y : Int) : Bool := isPlane l && isFin x && isFin y && isFin (least (valsT l x y l.length))
def pPlaneValue (l : List Trm) (x y : Int) : Int × Bool := if askedT l x y then (least (valsT l x y l.length), true) else (0, false)
def pPlaneLeast (l : List Trm) (x y : Int) : List Int × Bool := if askedT l x y then (places (valsT l x y l.length) (least (valsT l x y l.length)), true) else ([], false)
def pIsOnCurve (l : List Trm) (x y : Int) : Bool × Bool := if askedT l x y then (decide (1 < (places (valsT l x y l.length) (least (valsT l x y l.length))).length), true) else (false, false)
theorem told_fin {l : List Trm} {x y : Int} (h : isPlane l = true) (hx : isFin x = true) (hy : isFin y = true) : told (least (valsT l x y l.length)) = pPlaneValue l x y := by
  have hl := isPlane_len h
  have h1 := least_le (zs := valsT l x y l.length) (j := 0) (by rw [valsT_len]; omega)
  have h2 := valsT_bd h hx hy l.length (Nat.le_refl _) _ (getD_mem (zs := valsT l x y l.length) (k := 0) (by rw [valsT_len]; omega))
  have hn : isNum (least (valsT l x y l.length)) = isFin (least (valsT l x y l.length)) := by
    have : (least (valsT l x y l.length) == 1000000000) = false := by simp; omega
    rw [isNum, this, Bool.or_false]
  rw [told, pPlaneValue, askedT, h, hx, hy, hn]
  rfl
/- The moved polynomial; the points; a row. -/
def moveT (l : List Trm) (x y : Int) : List Trm := l.map fun t => (t.1, t.2.1, valT t x y)
def pMovePlane (l : List Trm) (x y : Int) : List Trm × Bool := if isPlane l && isFin x && isFin y && isPlane (moveT l x y) then (moveT l x y, true) else ([], false)
end Go.Proofs.YtmhbkljnilonkaaDoor
