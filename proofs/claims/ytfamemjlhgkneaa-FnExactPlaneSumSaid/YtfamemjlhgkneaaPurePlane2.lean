/- Plane polynomials in plain Lean, continued: points, moved terms, rows. -/
import Derived.Test.YtfamemjlhgkneaaPurePlane
import Derived.Test.YtfamemjlhgkneaaPnt
namespace Go.Proofs.Ytfamemjlhgkneaa
/- Points -/
def ptsTo (l : List Trm) : Nat → List Pnt
  | 0 => []
  | k + 1 => ptsTo l k ++ [((l.getD k (0, 0, 0)).1, (l.getD k (0, 0, 0)).2.1)]
def pNewtonPoints (l : List Trm) : List Pnt × Bool := if isPlane l then (ptsTo l l.length, true) else ([], false)
/- Moved terms -/
def movTo (l : List Trm) (x y : Int) : Nat → List Trm
  | 0 => []
  | k + 1 => movTo l x y k ++ [((l.getD k (0, 0, 0)).1, (l.getD k (0, 0, 0)).2.1, valT (l.getD k (0, 0, 0)) x y)]
theorem movTo_len (l : List Trm) (x y : Int) : ∀ k, (movTo l x y k).length = k
  | 0 => rfl
  | k + 1 => by rw [movTo, List.length_append, movTo_len l x y k]; rfl
def toldPl (l : List Trm) : List Trm × Bool := if isPlane l then (l, true) else ([], false)
def pMove (l : List Trm) (x y : Int) : List Trm × Bool := if isPlane l && (isFin x && isFin y) then toldPl (movTo l x y l.length) else ([], false)
theorem flatT_set2 : ∀ (l : List Trm) (k : Nat) (c : Int), k < l.length → (flatT l).set (k * 3 + 2) c = flatT (l.set k ((l.getD k (0, 0, 0)).1, (l.getD k (0, 0, 0)).2.1, c))
  | [], k, c, h => by simp at h
  | t :: l, 0, c, _ => by simp [flatT_cons]
  | t :: l, k + 1, c, h => by
    have := flatT_set2 l k c (by simpa using h)
    rw [show (k + 1) * 3 + 2 = k * 3 + 2 + 1 + 1 + 1 from by omega]
    simp only [flatT_cons, List.set_cons_succ, List.getD_cons_succ, this]
theorem mov_step {l : List Trm} {x y : Int} {n k : Nat} (hl : l.length = n) (hk : k < n) : (flatT (movTo l x y k ++ l.drop k)).set (k * 3 + 2) (valT (l.getD k (0, 0, 0)) x y) = flatT (movTo l x y (k + 1) ++ l.drop (k + 1)) := by
  have h2 : l.drop k = l.getD k (0, 0, 0) :: l.drop (k + 1) := by
    rw [List.drop_eq_getElem_cons (by omega)]
    simp [List.getD, List.getElem?_eq_getElem (show k < l.length by omega)]
  have hml := movTo_len l x y k
  rw [flatT_set2 _ _ _ (by rw [List.length_append, hml, List.length_drop]; omega)]
  rw [h2, List.set_append_right _ _ (by omega), hml, Nat.sub_self, List.set_cons_zero, movTo, List.append_assoc]
  rw [getD_app_r (by omega), hml, Nat.sub_self]
  rfl
/- A row -/
def padTo (xs : List Int) (m : Nat) : List Int := xs ++ List.replicate (m - xs.length) 1000000000
theorem padTo_done {xs : List Int} {m : Nat} (h : m ≤ xs.length) : padTo xs m = xs := by rw [padTo, show m - xs.length = 0 from by omega]; simp
theorem padTo_len {xs : List Int} {m : Nat} (h : xs.length ≤ m) : (padTo xs m).length = m := by rw [padTo, List.length_append, List.length_replicate]; omega
theorem padTo_more {xs : List Int} {m : Nat} (h : xs.length < m) : padTo (xs ++ [1000000000]) m = padTo xs m := by
  rw [padTo, padTo, List.append_assoc, List.length_append, show m - xs.length = (m - (xs.length + [(1000000000 : Int)].length)) + 1 from by simp; omega, List.replicate_succ]
  rfl
def rowTo (l : List Trm) (j : Int) : Nat → List Int
  | 0 => []
  | k + 1 => if (l.getD k (0, 0, 0)).2.1 = j then padTo (rowTo l j k) (l.getD k (0, 0, 0)).1.toNat ++ [(l.getD k (0, 0, 0)).2.2] else rowTo l j k
def pRowOf (l : List Trm) (j : Int) : List Int × Bool := if isPlane l && (decide (0 ≤ j) && decide (j ≤ 6)) then toldPol (rowTo l j l.length) else ([], false)
theorem ltT_trans {a b c : Trm} (h1 : ltT a b = true) (h2 : ltT b c = true) : ltT a c = true := by
  rw [ltT_iff] at *
  omega
theorem ltT_of_ok {l : List Trm} {n : Nat} (h : okTo l n = true) (a : Nat) : ∀ b, a < b → b < n → ltT (l.getD a (0, 0, 0)) (l.getD b (0, 0, 0)) = true
  | 0, h1, _ => absurd h1 (by omega)
  | b + 1, h1, h2 => by
    have hb := okTo_at h h2
    rw [okAt, Bool.and_eq_true, Bool.or_eq_true] at hb
    have h3 : ltT (l.getD b (0, 0, 0)) (l.getD (b + 1) (0, 0, 0)) = true := by
      rcases hb.2 with h4 | h4
      · simp at h4
      · exact h4
    by_cases e : a = b
    · rw [e]; exact h3
    · exact ltT_trans (ltT_of_ok h a b (by omega) (by omega)) h3
/-- What the row is after k terms. -/
theorem rowTo_inv {l : List Trm} {j : Int} (h : isPlane l = true) : ∀ k, k ≤ l.length →
    (rowTo l j k).all isNum = true ∧ (rowTo l j k).length ≤ 7 ∧ (0 < (rowTo l j k).length → ((rowTo l j k).getD ((rowTo l j k).length - 1) 0 != 1000000000) = true) ∧
      ∀ m, k ≤ m → m < l.length → (l.getD m (0, 0, 0)).2.1 = j → ((rowTo l j k).length : Int) ≤ (l.getD m (0, 0, 0)).1
  | 0, _ => ⟨rfl, by simp [rowTo], fun h0 => absurd h0 (by simp [rowTo]), fun m _ hm _ => by have := (isPlane_trm h hm).1.1; simpa [rowTo] using this⟩
  | k + 1, hk => by
    obtain ⟨h1, h2, h3, h4⟩ := rowTo_inv (j := j) h k (by omega)
    have ht := isPlane_trm h (show k < l.length by omega)
    have hlt := fun m (hm : k + 1 ≤ m) (hm2 : m < l.length) => (ltT_iff _ _).1 (ltT_of_ok (isPlane_ok h) k m (by omega) hm2)
    have h5 := h4 k (Nat.le_refl _) (by omega)
    rw [rowTo]
    generalize l.getD k (0, 0, 0) = t at *
    obtain ⟨ti, tj, tc⟩ := t
    dsimp only at *
    split
    · rename_i hj
      have h5 := h5 hj
      have hp : (padTo (rowTo l j k) ti.toNat).length = ti.toNat := padTo_len (by omega)
      have hpl : (padTo (rowTo l j k) ti.toNat ++ [tc]).length = ti.toNat + 1 := by rw [List.length_append, hp]; rfl
      refine ⟨?_, by omega, fun _ => ?_, fun m hm hm2 hjm => ?_⟩
      · rw [List.all_append, padTo, List.all_append, h1]
        have : isNum tc = true := by rw [isNum_iff]; omega
        simp only [List.all_replicate, List.all_cons, List.all_nil, this, Bool.and_true, Bool.true_and]
        split
        · rfl
        · decide
      · have hg : (padTo (rowTo l j k) ti.toNat ++ [tc]).getD ti.toNat 0 = tc := by rw [getD_app_r (by omega), hp, Nat.sub_self]; rfl
        rw [hpl, Nat.add_sub_cancel, hg]
        have : tc ≠ 1000000000 := by omega
        simpa using this
      · have h6 := hlt m hm hm2
        rw [hpl]
        omega
    · exact ⟨h1, h2, h3, fun m hm hm2 hjm => h4 m (by omega) hm2 hjm⟩
theorem row_pol {l : List Trm} {j : Int} (h : isPlane l = true) : isPol (rowTo l j l.length) = decide (0 < (rowTo l j l.length).length) := by
  obtain ⟨h1, h2, h3, _⟩ := rowTo_inv (j := j) h l.length (Nat.le_refl _)
  rw [isPol, h1, Bool.and_true]
  by_cases h0 : 0 < (rowTo l j l.length).length
  · have h3 := h3 h0
    rw [bne] at h3
    rw [h3, Bool.and_true]
    exact decide_eq_decide.2 ⟨fun _ => h0, fun _ => ⟨h0, by omega⟩⟩
  · rw [decide_eq_false (p := 1 ≤ (rowTo l j l.length).length ∧ (rowTo l j l.length).length ≤ 13) (by omega), decide_eq_false h0]
    rfl
end Go.Proofs.Ytfamemjlhgkneaa
