/- Swapped, multiplied and added plane polynomials. The plain laws. -/
import Derived.Test.YtfamemjlhgkneaaGath
import Derived.Test.YtfamemjlhgkneaaPurePlane2
namespace Go.Proofs.Ytfamemjlhgkneaa
def swpTo (l : List Trm) : Nat → List Trm
  | 0 => []
  | k + 1 => swpTo l k ++ [((l.getD k (0, 0, 0)).2.1, (l.getD k (0, 0, 0)).1, (l.getD k (0, 0, 0)).2.2)]
theorem swpTo_len (l : List Trm) : ∀ k, (swpTo l k).length = k
  | 0 => rfl
  | k + 1 => by rw [swpTo, List.length_append, swpTo_len l k]; rfl
def sumT (s t : Trm) : Trm := (s.1 + t.1, s.2.1 + t.2.1, s.2.2 + t.2.2)
def prdRow (s : Trm) (m : List Trm) : Nat → List Trm
  | 0 => []
  | k + 1 => prdRow s m k ++ [sumT s (m.getD k (0, 0, 0))]
def prdTo (l m : List Trm) : Nat → List Trm
  | 0 => []
  | k + 1 => prdTo l m k ++ prdRow (l.getD k (0, 0, 0)) m m.length
theorem prdRow_len (s : Trm) (m : List Trm) : ∀ k, (prdRow s m k).length = k
  | 0 => rfl
  | k + 1 => by rw [prdRow, List.length_append, prdRow_len s m k]; rfl
theorem prdTo_len (l m : List Trm) : ∀ k, (prdTo l m k).length = k * m.length
  | 0 => by simp [prdTo]
  | k + 1 => by rw [prdTo, List.length_append, prdTo_len l m k, prdRow_len, Nat.succ_mul]
theorem putAll_snoc (S l : List Trm) (t : Trm) : putAll S (l ++ [t]) = putT t (putAll S l) := by simp [putAll]
theorem putAll_app (S l m : List Trm) : putAll S (l ++ m) = putAll (putAll S l) m := by simp [putAll]
theorem putAll_len (S : List Trm) : ∀ l : List Trm, (putAll S l).length ≤ S.length + l.length := by
  intro l
  induction l generalizing S with
  | nil => simp [putAll]
  | cons t l ih =>
    have h1 := ih (putT t S)
    have h2 := putT_len t S
    simp only [List.length_cons]
    exact Nat.le_trans h1 (by omega)
theorem swpTo_ok {l : List Trm} (h : isPlane l = true) : ∀ k, k ≤ l.length → ∀ t ∈ swpTo l k, okT t
  | 0, _, t, ht => by simp [swpTo] at ht
  | k + 1, hk, t, ht => by
    rw [swpTo, List.mem_append] at ht
    rcases ht with ht | ht
    · exact swpTo_ok h k (by omega) t ht
    · have := isPlane_trm h (k := k) (by omega)
      simp at ht
      subst ht
      unfold okT
      simp only
      simp only [List.getD_eq_getElem?_getD] at this
      omega
theorem prdRow_ok {s : Trm} {m : List Trm} (hs : isTrm s = true) (h : isPlane m = true) : ∀ k, k ≤ m.length → ∀ t ∈ prdRow s m k, okT t
  | 0, _, t, ht => by simp [prdRow] at ht
  | k + 1, hk, t, ht => by
    rw [prdRow, List.mem_append] at ht
    rcases ht with ht | ht
    · exact prdRow_ok hs h k (by omega) t ht
    · have h1 := isPlane_trm h (k := k) (by omega)
      have h2 := (isTrm_iff _).1 hs
      simp at ht
      subst ht
      unfold okT sumT
      simp only
      simp only [List.getD_eq_getElem?_getD] at h1
      omega
theorem prdTo_ok {l m : List Trm} (hl : isPlane l = true) (hm : isPlane m = true) : ∀ k, k ≤ l.length → ∀ t ∈ prdTo l m k, okT t
  | 0, _, t, ht => by simp [prdTo] at ht
  | k + 1, hk, t, ht => by
    rw [prdTo, List.mem_append] at ht
    rcases ht with ht | ht
    · exact prdTo_ok hl hm k (by omega) t ht
    · exact prdRow_ok ((isTrm_iff _).2 (isPlane_trm hl (by omega))) hm _ (Nat.le_refl _) t ht
theorem plane_ok {l : List Trm} (h : isPlane l = true) : ∀ t ∈ l, okT t := fun t ht => by
  obtain ⟨k, hk, rfl⟩ := List.getElem_of_mem ht
  have := isPlane_trm h hk
  rw [show l.getD k (0, 0, 0) = l[k] from by simp [List.getD, List.getElem?_eq_getElem hk]] at this
  unfold okT
  omega
def pSwap (l : List Trm) : List Trm × Bool := if isPlane l then (putAll [] (swpTo l l.length), true) else ([], false)
def pPlaneProd (l m : List Trm) : List Trm × Bool := if isPlane l && isPlane m then toldPl (putAll [] (prdTo l m l.length)) else ([], false)
def pPlaneSum (l m : List Trm) : List Trm × Bool := if isPlane l && isPlane m then toldPl (putAll l m) else ([], false)
theorem sorted_plane {l : List Trm} (h : isPlane l = true) : Sorted l := by
  rw [isPlane, Bool.and_eq_true] at h
  rw [Sorted, List.pairwise_iff_getElem]
  intro i j hi hj hij
  have := ltT_of_ok h.2 i j hij hj
  simpa [List.getD, List.getElem?_eq_getElem hi, List.getElem?_eq_getElem hj] using this
end Go.Proofs.Ytfamemjlhgkneaa
