/- Points: bounds, what the functions answer in plain words, the sorted row without twins by neighbours. No program is named here. -/
import Derived.Test.YtfkglbmdpefigaaGreatDoorPureHull2
import Derived.Test.YtfkglbmdpefigaaGreatDoorClr
namespace Go.Proofs.YtfkglbmdpefigaaGreatDoor
/-- Small coordinates: nothing wraps. -/
def bdP (t : Pnt) : Prop := (-1000 ≤ t.1 ∧ t.1 ≤ 1000) ∧ -1000 ≤ t.2 ∧ t.2 ≤ 1000
theorem getP_mem {l : List Pnt} {k : Nat} (h : k < l.length) : l.getD k (0, 0) ∈ l := by simp [List.getD, List.getElem?_eq_getElem h]
theorem bdP_at {l : List Pnt} (h : ∀ t ∈ l, bdP t) {k : Nat} (hk : k < l.length) : bdP (l.getD k (0, 0)) := h _ (getP_mem hk)
theorem takeP_succ {l : List Pnt} {k : Nat} (hk : k < l.length) : l.take (k + 1) = l.take k ++ [l.getD k (0, 0)] := by
  rw [List.take_add_one]; simp [List.getD, List.getElem?_eq_getElem hk]
theorem dropP_cons {l : List Pnt} {k : Nat} (hk : k < l.length) : l.drop k = l.getD k (0, 0) :: l.drop (k + 1) := by
  rw [List.drop_eq_getElem_cons hk]; simp [List.getD, List.getElem?_eq_getElem hk]
theorem flatP_take : ∀ (l : List Pnt) (k : Nat), (flatP l).take (k * 2) = flatP (l.take k)
  | _, 0 => by simp [flatP]
  | [], k + 1 => by simp [flatP]
  | a :: l, k + 1 => by simp only [flatP_cons, List.take_succ_cons, show (k + 1) * 2 = k * 2 + 1 + 1 from by omega, flatP_take l k]
theorem flatP_drop : ∀ (l : List Pnt) (k : Nat), (flatP l).drop (k * 2) = flatP (l.drop k)
  | _, 0 => by simp
  | [], k + 1 => by simp [flatP]
  | a :: l, k + 1 => by simp only [flatP_cons, List.drop_succ_cons, show (k + 1) * 2 = k * 2 + 1 + 1 from by omega, flatP_drop l k]
/- Insertion at its place -/
theorem insP_at {t : Pnt} : ∀ {l : List Pnt} {k : Nat}, k ≤ l.length → (∀ i, i < k → ltP (l.getD i (0, 0)) t) → insP t l = l.take k ++ insP t (l.drop k)
  | l, 0, _, _ => by simp
  | [], k + 1, h, _ => by simp at h
  | a :: l, k + 1, h, hl => by
    have h0 := hl 0 (by omega)
    simp only [List.getD_cons_zero] at h0
    rw [insP, if_pos h0, insP_at (l := l) (k := k) (by simpa using h) fun i hi => by have := hl (i + 1) (by omega); simpa using this]
    simp
theorem insP_end {t : Pnt} {l : List Pnt} {k : Nat} (hk : k = l.length) (h : ∀ i, i < k → ltP (l.getD i (0, 0)) t) : insP t l = l.take k ++ [t] ++ [] := by
  rw [insP_at (by omega) h, hk, List.drop_length, List.append_nil]
  rfl
theorem insP_before {t : Pnt} {l : List Pnt} {k : Nat} (hk : k < l.length) (h : ∀ i, i < k → ltP (l.getD i (0, 0)) t) (h1 : ¬ ltP (l.getD k (0, 0)) t) (h2 : l.getD k (0, 0) ≠ t) : insP t l = l.take k ++ [t] ++ l.drop k := by
  rw [insP_at (by omega) h, dropP_cons hk, insP, if_neg h1, if_neg h2, List.append_assoc]
  rfl
theorem insP_same {t : Pnt} {l : List Pnt} {k : Nat} (hk : k < l.length) (h : ∀ i, i < k → ltP (l.getD i (0, 0)) t) (h2 : l.getD k (0, 0) = t) : insP t l = l := by
  rw [insP_at (by omega) h, dropP_cons hk, insP, if_neg (by rw [h2]; exact ltP_irrefl t), if_pos h2, ← dropP_cons hk, List.take_append_drop]
theorem insP_len (t : Pnt) : ∀ l : List Pnt, (insP t l).length ≤ l.length + 1
  | [] => by simp [insP]
  | a :: l => by
    have := insP_len t l
    rw [insP]
    split
    · simp; omega
    · split <;> simp
theorem insAll_take {l : List Pnt} {j : Nat} (h : j < l.length) : insAll [] (l.take (j + 1)) = insP (l.getD j (0, 0)) (insAll [] (l.take j)) := by
  rw [takeP_succ h, insAll, List.foldl_append]; rfl
theorem insAll_len (l : List Pnt) : ∀ j, (insAll [] (l.take j)).length ≤ j
  | 0 => by simp [insAll]
  | j + 1 => by
    by_cases h : j < l.length
    · rw [insAll_take h]
      have := insP_len (l.getD j (0, 0)) (insAll [] (l.take j))
      have := insAll_len l j
      omega
    · have := insAll_len l j
      rw [List.take_of_length_le (by omega)] at this ⊢
      omega
theorem sortP_len (l : List Pnt) : (sortP l).length ≤ l.length := by
  have := insAll_len l l.length
  rwa [List.take_length] at this
theorem sortP_ne {l : List Pnt} (h : 0 < l.length) : 0 < (sortP l).length := by
  cases l with
  | nil => simp at h
  | cons a l => exact List.length_pos_of_mem ((sortP_mem a (a :: l)).2 (by simp))
/- The half -/
theorem half_step {l : List Pnt} {j : Nat} (h : j < l.length) : halfS (l.take (j + 1)) = l.getD j (0, 0) :: hpop (l.getD j (0, 0)) (halfS (l.take j)) := by
  rw [takeP_succ h, halfS, List.foldl_append]; rfl
theorem hpop_len (p : Pnt) : ∀ s : List Pnt, (hpop p s).length ≤ s.length
  | [] => Nat.le_refl _
  | [_] => Nat.le_refl _
  | b :: a :: s => by
    rw [hpop]
    split
    · have := hpop_len p (a :: s)
      simp at this ⊢; omega
    · exact Nat.le_refl _
theorem hpop_sub (p v : Pnt) : ∀ s : List Pnt, v ∈ hpop p s → v ∈ s
  | [], h => h
  | [_], h => h
  | b :: a :: s, h => by
    rw [hpop] at h
    split at h
    · exact List.mem_cons_of_mem _ (hpop_sub p v (a :: s) h)
    · exact h
theorem half_len (l : List Pnt) : ∀ j, (halfS (l.take j)).length ≤ j
  | 0 => by simp [halfS]
  | j + 1 => by
    by_cases h : j < l.length
    · rw [half_step h]
      have := hpop_len (l.getD j (0, 0)) (halfS (l.take j))
      have := half_len l j
      rw [List.length_cons]; omega
    · have := half_len l j
      rw [List.take_of_length_le (by omega)] at this ⊢
      omega
theorem half_sub_mem {l : List Pnt} {v : Pnt} : ∀ j, v ∈ halfS (l.take j) → v ∈ l
  | 0, h => by simp [halfS] at h
  | j + 1, h => by
    by_cases hj : j < l.length
    · rw [half_step hj] at h
      rcases List.mem_cons.1 h with h | h
      · rw [h]; exact getP_mem hj
      · exact half_sub_mem j (hpop_sub _ _ _ h)
    · rw [List.take_of_length_le (by omega)] at h
      have := half_sub_mem (l := l) (v := v) j
      rw [List.take_of_length_le (by omega)] at this
      exact this h
theorem half_pos {l : List Pnt} (h : 0 < l.length) : 0 < (halfS l).length := by
  have := half_step (l := l) (j := l.length - 1) (by omega)
  rw [show l.length - 1 + 1 = l.length from by omega, List.take_length] at this
  rw [this]; simp
theorem halfS_len (l : List Pnt) : (halfS l).length ≤ l.length := by
  have := half_len l l.length
  rwa [List.take_length] at this
theorem halfS_mem {l : List Pnt} {v : Pnt} (h : v ∈ halfS l) : v ∈ l := half_sub_mem l.length (by rwa [List.take_length])
theorem rev_at1 (b : Pnt) (s : List Pnt) : (b :: s).reverse.getD s.length (0, 0) = b := by
  simp [List.getD]
theorem rev_at2 (b a : Pnt) (s : List Pnt) : (b :: a :: s).reverse.getD s.length (0, 0) = a := by
  simp [List.getD]
theorem rev_pop (b : Pnt) (s : List Pnt) : (b :: s).reverse.take s.length = s.reverse := by
  rw [List.reverse_cons, List.take_append_of_le_length (by simp), List.take_of_length_le (by simp)]
theorem take_last (l : List Pnt) : l.take (l.length - 1) = l.dropLast := by rw [List.dropLast_eq_take]
/- Keeping the first of each run, by neighbours -/
def keepP (l : List Pnt) (k : Nat) : Prop := k = 0 ∨ ¬ l.getD (k - 1) (0, 0) = l.getD k (0, 0)
instance (l : List Pnt) (k : Nat) : Decidable (keepP l k) := by unfold keepP; infer_instance
def upsP (l : List Pnt) : Nat → List Pnt
  | 0 => []
  | k + 1 => if keepP l k then upsP l k ++ [l.getD k (0, 0)] else upsP l k
def compP (l : List Pnt) : List Pnt := upsP l l.length
theorem upsP_keep {l : List Pnt} {k : Nat} (h : keepP l k) : upsP l (k + 1) = upsP l k ++ [l.getD k (0, 0)] := by rw [upsP, if_pos h]
theorem upsP_skip {l : List Pnt} {k : Nat} (h : ¬ keepP l k) : upsP l (k + 1) = upsP l k := by rw [upsP, if_neg h]
theorem upsP_mem {l : List Pnt} {v : Pnt} : ∀ k, k ≤ l.length → (v ∈ upsP l k ↔ v ∈ l.take k)
  | 0, _ => by simp [upsP]
  | k + 1, h => by
    have ih := upsP_mem (l := l) (v := v) k (by omega)
    rw [takeP_succ (by omega)]
    by_cases hk : keepP l k
    · rw [upsP_keep hk, List.mem_append, List.mem_append, ih]
    · rw [upsP_skip hk, List.mem_append, ih, List.mem_singleton]
      constructor
      · exact .inl
      · rintro (h1 | h1)
        · exact h1
        · have hk2 : ¬ k = 0 := fun e => hk (.inl e)
          have he : l.getD (k - 1) (0, 0) = l.getD k (0, 0) := Decidable.byContradiction fun e => hk (.inr e)
          rw [h1, ← he]
          have : l.take k = l.take (k - 1) ++ [l.getD (k - 1) (0, 0)] := by
            have := takeP_succ (l := l) (k := k - 1) (by omega)
            rwa [show k - 1 + 1 = k from by omega] at this
          rw [this]; simp
theorem upsP_sorted {l : List Pnt} (hs : l.Pairwise fun a b => ¬ ltP b a) : ∀ k, k ≤ l.length → SortedP (upsP l k)
  | 0, _ => List.Pairwise.nil
  | k + 1, h => by
    have ih := upsP_sorted hs k (by omega)
    by_cases hk : keepP l k
    · rw [upsP_keep hk]
      refine List.pairwise_append.2 ⟨ih, by simp, fun a ha b hb => ?_⟩
      rw [List.mem_singleton] at hb
      subst hb
      rw [upsP_mem k (by omega)] at ha
      rcases hk with hk | hk
      · subst hk; simp at ha
      · obtain ⟨i, hi, rfl⟩ := List.mem_iff_getElem.1 ha
        have hik : i < k := by simp at hi; omega
        rw [List.getElem_take]
        rw [List.pairwise_iff_getElem] at hs
        have h1 := hs i k (by omega) (by omega) hik
        rcases three l[i] (l.getD k (0, 0)) with e | e | e
        · exfalso
          have hl : l.getD k (0, 0) = l[k] := by simp [List.getD, List.getElem?_eq_getElem (show k < l.length by omega)]
          have hl1 : l.getD (k - 1) (0, 0) = l[k - 1] := by simp [List.getD, List.getElem?_eq_getElem (show k - 1 < l.length by omega)]
          by_cases hi1 : i = k - 1
          · subst hi1
            exact hk (by rw [hl1, e])
          · have h2 := hs i (k - 1) (by omega) (by omega) (by omega)
            have h3 := hs (k - 1) k (by omega) (by omega) (by omega)
            rw [e, hl] at h2
            rcases three l[k - 1] l[k] with e2 | e2 | e2
            · exact hk (by rw [hl1, hl, e2])
            · exact h2 e2
            · exact h3 e2
        · exact e
        · exfalso
          have hl : l.getD k (0, 0) = l[k] := by simp [List.getD, List.getElem?_eq_getElem (show k < l.length by omega)]
          rw [hl] at e
          exact h1 e
    · rw [upsP_skip hk]; exact ih
theorem compP_sort {l M : List Pnt} (hp : M.Perm l) (hs : M.Pairwise fun a b => ¬ ltP b a) : compP M = sortP l :=
  sortedP_ext (upsP_sorted hs _ (Nat.le_refl _)) (sortP_sorted l) fun t => by
    rw [compP, upsP_mem _ (Nat.le_refl _), List.take_length, sortP_mem, hp.mem_iff]
theorem laid2 : ∀ (D : List Pnt) (k : Nat) (t : Pnt), k < D.length → laid (flatP D) (k * 2) [t.1, t.2] = flatP (D.set k t)
  | [], k, _, h => by simp at h
  | a :: D, 0, t, _ => by simp [laid, flatP_cons]
  | a :: D, k + 1, t, h => by
    have := laid2 D k t (by simpa using h)
    simp only [laid] at this ⊢
    simp only [flatP_cons, List.set_cons_succ, show (k + 1) * 2 = k * 2 + 1 + 1 from by omega]
    rw [this]
/-- The row within the second loop: m looked at, kk kept. -/
structure CompAtP (l D : List Pnt) (m kk : Nat) : Prop where
  len : D.length = l.length
  lt : kk + 1 ≤ m
  le : m ≤ l.length
  done : D.take kk = upsP l m
  high : ∀ i, m - 1 ≤ i → D.getD i (0, 0) = l.getD i (0, 0)
theorem CompAtP.start {l : List Pnt} {k : Nat} (hk : k < l.length) (hall : upsP l k = l.take k) (h : ¬ keepP l k) : CompAtP l l (k + 1) k :=
  ⟨rfl, Nat.le_refl _, hk, by rw [upsP_skip h, hall], fun _ _ => rfl⟩
theorem CompAtP.skip {l D : List Pnt} {m kk : Nat} (c : CompAtP l D m kk) (hm : m < l.length) (h : ¬ keepP l m) : CompAtP l D (m + 1) kk :=
  ⟨c.len, by have := c.lt; omega, hm, by rw [upsP_skip h, c.done], fun i hi => c.high i (by omega)⟩
theorem CompAtP.keep {l D : List Pnt} {m kk : Nat} (c : CompAtP l D m kk) (hm : m < l.length) (h : keepP l m) : CompAtP l (D.set kk (l.getD m (0, 0))) (m + 1) (kk + 1) := by
  have h1 := c.lt
  have h2 := c.len
  refine ⟨by simp [h2], by omega, hm, ?_, fun i hi => ?_⟩
  · rw [takeP_succ (by simp; omega), upsP_keep h, List.take_set_of_le (Nat.le_refl _), c.done]
    simp [List.getD, show kk < D.length by omega]
  · have := c.high i (by omega)
    rw [← this]
    simp [List.getD, show kk ≠ i by omega]
/- What the exported functions answer -/
def okPt (t : Pnt) : Bool := (decide (-100 ≤ t.1) && decide (t.1 ≤ 100)) && (decide (-100 ≤ t.2) && decide (t.2 ≤ 100))
def arePts (l : List Pnt) : Bool := (decide (1 ≤ l.length) && decide (l.length ≤ 40)) && l.all okPt
def isPgn (l : List Pnt) : Bool := arePts l && decide (hullP l = l)
def pHull (l : List Pnt) : List Pnt × Bool := if arePts l then (hullP l, true) else ([], false)
theorem arePts_len {l : List Pnt} (h : arePts l = true) : 1 ≤ l.length ∧ l.length ≤ 40 := by
  simp [arePts] at h; omega
theorem okPt_iff (t : Pnt) : okPt t = true ↔ (-100 ≤ t.1 ∧ t.1 ≤ 100) ∧ -100 ≤ t.2 ∧ t.2 ≤ 100 := by simp [okPt]
theorem arePts_ok {l : List Pnt} (h : arePts l = true) : ∀ t ∈ l, okPt t = true := by
  unfold arePts at h
  rw [Bool.and_eq_true, List.all_eq_true] at h
  exact h.2
theorem arePts_bd {l : List Pnt} (h : arePts l = true) : ∀ t ∈ l, bdP t := fun t ht => by
  have := (okPt_iff t).1 (arePts_ok h t ht)
  unfold bdP
  omega
theorem bd_sort {l : List Pnt} (h : ∀ t ∈ l, bdP t) : ∀ t ∈ sortP l, bdP t := fun t ht => h t ((sortP_mem t l).1 ht)
theorem bd_half {l : List Pnt} (h : ∀ t ∈ l, bdP t) : ∀ t ∈ halfS l, bdP t := fun t ht => h t (halfS_mem ht)
theorem hullP_bd {l : List Pnt} (h : ∀ t ∈ l, bdP t) : ∀ t ∈ hullP l, bdP t := fun t ht => by
  unfold hullP at ht
  split at ht
  · exact bd_sort h t ht
  · rcases List.mem_append.1 ht with ht | ht
    · exact bd_sort h t (halfS_mem (List.mem_reverse.1 (List.dropLast_subset _ ht)))
    · exact bd_sort h t (List.mem_reverse.1 (halfS_mem (List.mem_reverse.1 (List.dropLast_subset _ ht))))
theorem hullP_len (l : List Pnt) : (hullP l).length ≤ 2 * l.length := by
  have h0 := sortP_len l
  unfold hullP
  split
  · omega
  · have h1 := halfS_len (sortP l)
    have h2 := halfS_len (sortP l).reverse
    simp at h2 ⊢
    omega
end Go.Proofs.YtfkglbmdpefigaaGreatDoor
