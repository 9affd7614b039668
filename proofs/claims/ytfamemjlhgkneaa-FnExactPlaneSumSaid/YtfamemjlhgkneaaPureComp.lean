/- Keeping the first of each run, by neighbours. No program is named here. -/
import Derived.Test.YtfamemjlhgkneaaPureGath
import Derived.Test.YtfamemjlhgkneaaTrm
import Derived.Test.YtfamemjlhgkneaaClr
namespace Go.Proofs.Ytfamemjlhgkneaa
def keepT (l : List Trm) (k : Nat) : Prop := k = 0 ∨ ¬ same (l.getD (k - 1) (0, 0, 0)) (l.getD k (0, 0, 0))
instance (l : List Trm) (k : Nat) : Decidable (keepT l k) := by unfold keepT same; infer_instance
def upsT (l : List Trm) : Nat → List Trm
  | 0 => []
  | k + 1 => if keepT l k then upsT l k ++ [l.getD k (0, 0, 0)] else upsT l k
def lastT : Trm → List Trm → Trm
  | p, [] => p
  | _, b :: l => lastT b l
theorem compR_snoc (x : Trm) : ∀ (l : List Trm) (p : Trm), compR p (l ++ [x]) = if same (lastT p l) x then compR p l else compR p l ++ [x]
  | [], p => by
    by_cases h : same p x <;> simp [compR, lastT, h]
  | b :: l, p => by
    have ih := compR_snoc x l b
    by_cases h : same p b <;> by_cases h2 : same (lastT b l) x <;> simp [compR, lastT, h, h2, ih]
theorem lastT_take : ∀ (l : List Trm) (a : Trm) (k : Nat), k ≤ l.length → lastT a (l.take k) = (a :: l).getD k (0, 0, 0)
  | _, _, 0, _ => by simp [lastT]
  | [], _, k + 1, h => by simp at h
  | b :: l, a, k + 1, h => by rw [List.take_succ_cons, lastT, lastT_take l b k (by simpa using h)]; simp
theorem upsT_take (a : Trm) (l : List Trm) : ∀ k, k ≤ l.length → upsT (a :: l) (k + 1) = a :: compR a (l.take k)
  | 0, _ => by simp [upsT, keepT, compR]
  | k + 1, h => by
    rw [upsT, upsT_take a l k (by omega)]
    have ht : l.take (k + 1) = l.take k ++ [l.getD k (0, 0, 0)] := by
      rw [List.take_add_one]; simp [List.getD, List.getElem?_eq_getElem (show k < l.length by omega)]
    rw [ht, compR_snoc, lastT_take l a k (by omega)]
    simp only [List.getD_cons_succ]
    by_cases hs : same ((a :: l).getD k (0, 0, 0)) (l.getD k (0, 0, 0))
    · rw [if_pos hs, if_neg]
      rintro (h | h)
      · omega
      · exact h (by simpa using hs)
    · rw [if_neg hs, if_pos (.inr (by simpa using hs)), List.cons_append]
theorem upsT_eq : ∀ l : List Trm, upsT l l.length = compT l
  | [] => rfl
  | a :: l => by rw [List.length_cons, upsT_take a l l.length (Nat.le_refl _), List.take_length]; rfl
theorem takeT_succ {l : List Trm} {k : Nat} (hk : k < l.length) : l.take (k + 1) = l.take k ++ [l.getD k (0, 0, 0)] := by
  rw [List.take_add_one]; simp [List.getD, List.getElem?_eq_getElem hk]
theorem upsT_keep {l : List Trm} {k : Nat} (h : keepT l k) : upsT l (k + 1) = upsT l k ++ [l.getD k (0, 0, 0)] := by rw [upsT, if_pos h]
theorem upsT_skip {l : List Trm} {k : Nat} (h : ¬ keepT l k) : upsT l (k + 1) = upsT l k := by rw [upsT, if_neg h]
theorem laid3 : ∀ (D : List Trm) (k : Nat) (t : Trm), k < D.length → laid (flatT D) (k * 3) [t.1, t.2.1, t.2.2] = flatT (D.set k t)
  | [], k, _, h => by simp at h
  | a :: D, 0, t, _ => by simp [laid, flatT_cons]
  | a :: D, k + 1, t, h => by
    have := laid3 D k t (by simpa using h)
    simp only [laid] at this ⊢
    simp only [flatT_cons, List.set_cons_succ, show (k + 1) * 3 = k * 3 + 1 + 1 + 1 from by omega]
    rw [this]
theorem flatT_take : ∀ (l : List Trm) (k : Nat), (flatT l).take (k * 3) = flatT (l.take k)
  | _, 0 => by simp [flatT]
  | [], k + 1 => by simp [flatT]
  | a :: l, k + 1 => by simp only [flatT_cons, List.take_succ_cons, show (k + 1) * 3 = k * 3 + 1 + 1 + 1 from by omega, flatT_take l k]
/-- The row within the second loop: m looked at, kk kept. -/
structure CompAt (l D : List Trm) (m kk : Nat) : Prop where
  len : D.length = l.length
  lt : kk + 1 ≤ m
  le : m ≤ l.length
  done : D.take kk = upsT l m
  high : ∀ i, m - 1 ≤ i → D.getD i (0, 0, 0) = l.getD i (0, 0, 0)
theorem CompAt.start {l : List Trm} {k : Nat} (hk : k < l.length) (hall : upsT l k = l.take k) (h : ¬ keepT l k) : CompAt l l (k + 1) k :=
  ⟨rfl, Nat.le_refl _, hk, by rw [upsT_skip h, hall], fun _ _ => rfl⟩
theorem CompAt.skip {l D : List Trm} {m kk : Nat} (c : CompAt l D m kk) (hm : m < l.length) (h : ¬ keepT l m) : CompAt l D (m + 1) kk :=
  ⟨c.len, by have := c.lt; omega, hm, by rw [upsT_skip h, c.done], fun i hi => c.high i (by omega)⟩
theorem CompAt.keep {l D : List Trm} {m kk : Nat} (c : CompAt l D m kk) (hm : m < l.length) (h : keepT l m) : CompAt l (D.set kk (l.getD m (0, 0, 0))) (m + 1) (kk + 1) := by
  have h1 := c.lt
  have h2 := c.len
  refine ⟨by simp [h2], by omega, hm, ?_, fun i hi => ?_⟩
  · rw [takeT_succ (by simp; omega), upsT_keep h, List.take_set_of_le (Nat.le_refl _), c.done]
    simp [List.getD, show kk < D.length by omega]
  · have := c.high i (by omega)
    rw [← this]
    simp [List.getD, show kk ≠ i by omega]
end Go.Proofs.Ytfamemjlhgkneaa
