/- The polynomial of roots: products of (x + r), and sums of the least roots. The plain law. -/
import Derived.Test.YtfmlclciijlpkaaPurePoly
namespace Go.Proofs.Ytfmlclciijlpkaa
def insS (r : Int) : List Int → List Int
  | [] => [r]
  | a :: S => if a < r then a :: insS r S else r :: a :: S
def srtS (l : List Int) : List Int := l.foldl (fun S r => insS r S) []
def sumS : List Int → Nat → Int
  | _, 0 => 0
  | [], _ + 1 => 0
  | a :: S, k + 1 => a + sumS S k
theorem sumS_succ : ∀ (S : List Int) (k : Nat), k < S.length → sumS S (k + 1) = sumS S k + S.getD k 0
  | [], _, h => by simp at h
  | a :: S, 0, _ => by simp [sumS]
  | a :: S, k + 1, h => by
    have := sumS_succ S k (by simpa using h)
    rw [sumS, this, sumS]
    simp
    omega
abbrev SrtS (S : List Int) : Prop := S.Pairwise fun a b => a ≤ b
theorem insS_len (r : Int) : ∀ S : List Int, (insS r S).length = S.length + 1
  | [] => rfl
  | a :: S => by
    have := insS_len r S
    rw [insS]; split <;> simp [this]
theorem insS_mem (r z : Int) : ∀ S : List Int, z ∈ insS r S ↔ z = r ∨ z ∈ S
  | [] => by simp [insS]
  | a :: S => by
    have := insS_mem r z S
    rw [insS]
    split
    · simp only [List.mem_cons, this]
      constructor
      · rintro (h | h | h) <;> simp [h]
      · rintro (h | h | h) <;> simp [h]
    · simp only [List.mem_cons]
theorem insS_srt (r : Int) : ∀ S : List Int, SrtS S → SrtS (insS r S)
  | [], _ => by simp [insS]
  | a :: S, h => by
    obtain ⟨h1, h2⟩ := List.pairwise_cons.1 h
    rw [insS]
    split
    · refine List.pairwise_cons.2 ⟨fun z hz => ?_, insS_srt r S h2⟩
      rcases (insS_mem r z S).1 hz with e | e
      · omega
      · exact h1 z e
    · refine List.pairwise_cons.2 ⟨fun z hz => ?_, h⟩
      rcases List.mem_cons.1 hz with e | e
      · omega
      · have := h1 z e; omega
/-- The i least of a list with one more. -/
theorem sumS_ins (r : Int) : ∀ (S : List Int) (i : Nat), SrtS S → i < S.length → sumS (insS r S) (i + 1) = min (sumS S i + r) (sumS S (i + 1))
  | [], _, _, h => by simp at h
  | a :: S, 0, h, _ => by
    rw [insS]
    split
    · simp only [sumS]; omega
    · simp only [sumS]; omega
  | a :: S, i + 1, h, hi => by
    obtain ⟨h1, h2⟩ := List.pairwise_cons.1 h
    have hi' : i < S.length := by simpa using hi
    have ih := sumS_ins r S i h2 hi'
    rw [insS]
    split
    · rw [sumS, ih, sumS, sumS]; omega
    · rename_i hr
      rw [sumS, sumS_succ (a :: S) (i + 1) hi]
      have : r ≤ (a :: S).getD (i + 1) 0 := by
        have h3 := h1 (S.getD i 0) (by simp [List.getD, List.getElem?_eq_getElem hi'])
        simp only [List.getD_cons_succ]
        omega
      omega
theorem sumS_ins_all (r : Int) : ∀ S : List Int, sumS (insS r S) (S.length + 1) = sumS S S.length + r
  | [] => by simp [insS, sumS]
  | a :: S => by
    have ih := sumS_ins_all r S
    rw [insS]
    split
    · rw [List.length_cons, sumS, ih, sumS]; omega
    · simp only [sumS, List.length_cons]; omega
/-- The coefficients: from the greatest exponent on, sums of the least roots. -/
def rootsP (lead : Int) (S : List Int) : List Int := (List.range (S.length + 1)).map fun j => lead + sumS S (S.length - j)
theorem rootsP_len (lead : Int) (S : List Int) : (rootsP lead S).length = S.length + 1 := by simp [rootsP]
theorem rootsP_at {lead : Int} {S : List Int} {j : Nat} (h : j ≤ S.length) : (rootsP lead S).getD j 0 = lead + sumS S (S.length - j) := by
  simp [rootsP, List.getD, show j < S.length + 1 by omega]
theorem sumS_bd {S : List Int} (h : ∀ z ∈ S, -1000000 ≤ z ∧ z ≤ 1000000) : ∀ i : Nat, -1000000 * (i : Int) ≤ sumS S i ∧ sumS S i ≤ 1000000 * (i : Int) := by
  intro i
  induction i generalizing S with
  | zero => cases S <;> simp [sumS]
  | succ i ih =>
    cases S with
    | nil => simp only [sumS]; omega
    | cons a S =>
      have h1 := h a (by simp)
      have h2 := ih (S := S) fun z hz => h z (List.mem_cons_of_mem _ hz)
      rw [sumS]
      omega
theorem rootsP_bd {lead : Int} {S : List Int} (hl : -1000000 ≤ lead ∧ lead ≤ 1000000) (h : ∀ z ∈ S, -1000000 ≤ z ∧ z ≤ 1000000) (hn : S.length ≤ 12) : ∀ z ∈ rootsP lead S, -20000000 ≤ z ∧ z ≤ 20000000 := fun z hz => by
  unfold rootsP at hz
  obtain ⟨j, _, rfl⟩ := List.mem_map.1 hz
  have := sumS_bd h (S.length - j)
  omega
theorem conv_low (p : List Int) (r : Int) (n : Nat) : ∀ i, i + 1 ≤ n → convTo p [r, 0] n i = 1000000000
  | 0, _ => rfl
  | i + 1, h => by
    rw [convTo, if_pos (by omega), conv_low p r n i (by omega), prod, if_pos (.inr (coef_out (by simp; omega)))]
    rfl
theorem conv_zero (p : List Int) (r : Int) : convTo p [r, 0] 0 1 = min 1000000000 (prod (coef p 0) r) := rfl
theorem conv_succ (p : List Int) (r : Int) (m : Nat) : convTo p [r, 0] (m + 1) (m + 2) = min (min 1000000000 (prod (coef p m) 0)) (prod (coef p (m + 1)) r) := by
  rw [convTo, if_pos (by omega), convTo, if_pos (by omega), conv_low p r (m + 1) m (by omega), show m + 1 - m = 1 from by omega, show m + 1 - (m + 1) = 0 from by omega]
  rfl
theorem pprod_roots {lead r : Int} {S : List Int} (hl : -1000000 ≤ lead ∧ lead ≤ 1000000) (h : ∀ z ∈ S, -1000000 ≤ z ∧ z ≤ 1000000) (hr : -1000000 ≤ r ∧ r ≤ 1000000) (hn : S.length ≤ 12) (hs : SrtS S) :
    pprod (rootsP lead S) [r, 0] = rootsP lead (insS r S) := by
  have hpl := rootsP_len lead S
  have hb : ∀ k, k ≤ S.length → -20000000 ≤ (rootsP lead S).getD k 0 ∧ (rootsP lead S).getD k 0 ≤ 20000000 := fun k hk => rootsP_bd hl h hn _ (by simp [List.getD, List.getElem?_eq_getElem (show k < (rootsP lead S).length by omega)])
  apply List.ext_getElem
  · rw [pprod, pprodTo_len, rootsP_len, rootsP_len, insS_len]; simp
  · intro n h1 h2
    have hn1 : n ≤ S.length + 1 := by rw [rootsP_len, insS_len] at h2; omega
    have e1 : (pprod (rootsP lead S) [r, 0])[n] = (pprod (rootsP lead S) [r, 0]).getD n 0 := by simp [List.getD, List.getElem?_eq_getElem h1]
    have e2 : (rootsP lead (insS r S))[n] = (rootsP lead (insS r S)).getD n 0 := by simp [List.getD, List.getElem?_eq_getElem h2]
    rw [e1, e2, pprod, pprodTo_at _ _ _ _ (by rw [rootsP_len]; simp; omega), rootsP_at (by rw [insS_len]; exact hn1), insS_len]
    match n, hn1 with
    | 0, _ =>
      have hb0 := hb 0 (by omega)
      rw [conv_zero, coef_in (by omega), prod, if_neg (by omega), rootsP_at (by omega), Nat.sub_zero, Nat.sub_zero, sumS_ins_all]
      rw [rootsP_at (by omega), Nat.sub_zero] at hb0
      omega
    | m + 1, hm =>
      have hb0 := hb m (by omega)
      rw [conv_succ, coef_in (by omega)]
      have e3 : prod ((rootsP lead S).getD m 0) 0 = lead + sumS S (S.length - m) := by
        rw [prod, if_neg (by omega), rootsP_at (by omega)]; omega
      rw [e3]
      rw [rootsP_at (by omega)] at hb0
      by_cases hm2 : m + 1 ≤ S.length
      · have hb1 := hb (m + 1) hm2
        rw [coef_in (by omega), prod, if_neg (by omega), rootsP_at hm2]
        rw [rootsP_at hm2] at hb1
        have := sumS_ins r S (S.length - (m + 1)) hs (by omega)
        rw [show S.length - (m + 1) + 1 = S.length + 1 - (m + 1) from by omega] at this
        rw [this, show S.length + 1 - (m + 1) = S.length - m from by omega]
        omega
      · rw [prod, if_pos (.inl (coef_out (by omega))), show S.length - m = 0 from by omega, show S.length + 1 - (m + 1) = 0 from by omega]
        have z1 : sumS S 0 = 0 := by cases S <;> rfl
        have z2 : sumS (insS r S) 0 = 0 := by cases (insS r S) <;> rfl
        rw [z1, z2]
        omega
theorem srtS_take {l : List Int} {j : Nat} (h : j < l.length) : srtS (l.take (j + 1)) = insS (l.getD j 0) (srtS (l.take j)) := by
  rw [List.take_add_one, srtS, List.foldl_append]
  simp [List.getD, List.getElem?_eq_getElem h, srtS]
theorem srtS_len (l : List Int) : (srtS l).length = l.length := by
  have : ∀ (l S : List Int), (l.foldl (fun S r => insS r S) S).length = S.length + l.length := by
    intro l
    induction l with
    | nil => intro S; rfl
    | cons a l ih => intro S; rw [List.foldl_cons, ih, insS_len, List.length_cons]; omega
  rw [srtS, this]; simp
theorem srtS_mem (l : List Int) (z : Int) : z ∈ srtS l ↔ z ∈ l := by
  have : ∀ (l S : List Int), z ∈ l.foldl (fun S r => insS r S) S ↔ z ∈ S ∨ z ∈ l := by
    intro l
    induction l with
    | nil => intro S; simp
    | cons a l ih =>
      intro S
      rw [List.foldl_cons, ih, insS_mem, List.mem_cons]
      constructor
      · rintro ((h | h) | h) <;> simp [h]
      · rintro (h | h | h) <;> simp [h]
  rw [srtS, this]; simp
theorem srtS_srt (l : List Int) : SrtS (srtS l) := by
  have : ∀ (l S : List Int), SrtS S → SrtS (l.foldl (fun S r => insS r S) S) := by
    intro l
    induction l with
    | nil => intro S h; exact h
    | cons a l ih => intro S h; exact ih _ (insS_srt a S h)
  exact this l [] List.Pairwise.nil
/-- The place of r. -/
theorem insS_at {r : Int} : ∀ {l : List Int} {k : Nat}, k ≤ l.length → (∀ i, i < k → l.getD i 0 < r) → (k < l.length → ¬ l.getD k 0 < r) → insS r l = l.take k ++ [r] ++ l.drop k
  | [], 0, _, _, _ => rfl
  | [], k + 1, h, _, _ => by simp at h
  | a :: l, 0, _, _, h2 => by
    have := h2 (by simp)
    rw [insS, if_neg (by simpa using this)]
    rfl
  | a :: l, k + 1, h, hl, h2 => by
    have h0 := hl 0 (by omega)
    simp only [List.getD_cons_zero] at h0
    rw [insS, if_pos h0, insS_at (l := l) (k := k) (by simpa using h) (fun i hi => by have := hl (i + 1) (by omega); simpa using this) (fun hk => by have := h2 (by simpa using hk); simpa using this)]
    simp
theorem placeS (r : Int) : ∀ L : List Int, ∃ K, K ≤ L.length ∧ (∀ i, i < K → L.getD i 0 < r) ∧ (K < L.length → ¬ L.getD K 0 < r)
  | [] => ⟨0, Nat.le_refl _, fun _ h => absurd h (by omega), fun h => by simp at h⟩
  | a :: L => by
    by_cases h : a < r
    · obtain ⟨K, h1, h2, h3⟩ := placeS r L
      refine ⟨K + 1, by simpa using h1, fun i hi => ?_, fun hk => ?_⟩
      · cases i with
        | zero => exact h
        | succ i => simpa using h2 i (by omega)
      · simpa using h3 (by simpa using hk)
    · exact ⟨0, Nat.zero_le _, fun _ h => absurd h (by omega), fun _ => by simpa using h⟩
/-- What PolyFromRoots answers. -/
def okRoots (lead : Int) (l : List Int) : Bool := isFin lead && l.all isFin && decide (l.length ≤ 12)
def pRoots (lead : Int) (l : List Int) : List Int × Bool := if okRoots lead l then (if (rootsP lead (srtS l)).all isFin then (rootsP lead (srtS l), true) else ([], false)) else ([], false)
theorem roots_pol {lead : Int} {l : List Int} (h : okRoots lead l = true) : isPol (rootsP lead (srtS l)) = (rootsP lead (srtS l)).all isFin := by
  simp only [okRoots, Bool.and_eq_true, decide_eq_true_eq] at h
  obtain ⟨⟨h1, h2⟩, h3⟩ := h
  have hS : ∀ z ∈ srtS l, -1000000 ≤ z ∧ z ≤ 1000000 := fun z hz => (isFin_iff z).1 (List.all_eq_true.1 h2 z ((srtS_mem l z).1 hz))
  have hl := (isFin_iff lead).1 h1
  have hb := rootsP_bd hl hS (by rw [srtS_len]; exact h3)
  have hlen := rootsP_len lead (srtS l)
  rw [srtS_len] at hlen
  have hlast : (rootsP lead (srtS l)).getD ((rootsP lead (srtS l)).length - 1) 0 = lead := by
    rw [rootsP_at (by rw [hlen, srtS_len]; omega), hlen, srtS_len, show l.length - (l.length + 1 - 1) = 0 from by omega]
    have : sumS (srtS l) 0 = 0 := by cases (srtS l) <;> rfl
    rw [this]; omega
  rw [isPol, hlast, hlen, decide_eq_true (by omega), Bool.true_and, show (lead == 1000000000) = false from by rw [beq_eq_false_iff_ne]; omega, Bool.not_false, Bool.and_true]
  rw [Bool.eq_iff_iff, List.all_eq_true, List.all_eq_true]
  constructor
  · intro hh z hz
    have h5 := hh z hz
    have h6 := hb z hz
    rw [isNum_iff] at h5
    rw [isFin_iff]
    omega
  · intro hh z hz
    have h5 := hh z hz
    rw [isFin_iff] at h5
    rw [isNum_iff]
    omega
end Go.Proofs.Ytfmlclciijlpkaa
