/- The hull of points by two halves: what a half is, and that the hull of a hull is itself. No program is named here. -/
import Derived.Test.YtfkglbmdpefigaaGreatDoorPnt
namespace Go.Proofs.YtfkglbmdpefigaaGreatDoor
def crs (u v : Pnt) : Int := u.1 * v.2 - u.2 * v.1
/-- Lexicographically above 0. -/
def Pos (u : Pnt) : Prop := 0 < u.1 ∨ u.1 = 0 ∧ 0 < u.2
theorem mul_pos' {a b : Int} (h : 0 < a) (k : 0 < b) : 0 < a * b := Int.mul_pos h k
theorem pos_of_mulP {a b : Int} (h : 0 < a) (k : 0 < a * b) : 0 < b := by
  by_cases hb : b ≤ 0
  · have := Int.mul_nonneg (Int.le_of_lt h) (show 0 ≤ -b by omega)
    rw [Int.mul_neg] at this
    omega
  · omega
theorem nonneg_of_mulP {a b : Int} (h : 0 < a) (k : 0 ≤ a * b) : 0 ≤ b := by
  by_cases hb : b < 0
  · have := Int.mul_pos h (show 0 < -b by omega)
    rw [Int.mul_neg] at this
    omega
  · omega
theorem crs_id (u v w : Pnt) : v.1 * crs u w = u.1 * crs v w + w.1 * crs u v := by
  unfold crs
  simp only [Int.mul_sub]
  have e1 : v.1 * (u.1 * w.2) = u.1 * (v.1 * w.2) := by rw [Int.mul_left_comm]
  have e2 : v.1 * (u.2 * w.1) = w.1 * (u.2 * v.1) := by rw [← Int.mul_assoc, Int.mul_comm (v.1 * u.2), Int.mul_comm v.1]
  have e3 : u.1 * (v.2 * w.1) = w.1 * (u.1 * v.2) := by rw [← Int.mul_assoc, Int.mul_comm]
  omega
theorem crs_swap (u v : Pnt) : crs u v = - crs v u := by
  unfold crs
  rw [Int.mul_comm u.1, Int.mul_comm u.2]
  omega
/-- Strictly growing slopes. -/
theorem crs_trans {u v w : Pnt} (hu : Pos u) (hv : Pos v) (hw : Pos w) (h : 0 < crs u v) (k : 0 < crs v w) : 0 < crs u w := by
  have hid := crs_id u v w
  rcases hv with hv | ⟨hv, hv2⟩
  · have hu1 : 0 < u.1 := by
      rcases hu with hu | ⟨hu, hu2⟩
      · exact hu
      · exfalso
        have : crs u v = - (u.2 * v.1) := by unfold crs; rw [hu]; simp
        have := mul_pos' hu2 hv
        omega
    have hw1 : 0 ≤ w.1 := by rcases hw with hw | ⟨hw, _⟩ <;> omega
    have h1 := mul_pos' hu1 k
    have h2 := Int.mul_nonneg hw1 (Int.le_of_lt h)
    have h3 : 0 < v.1 * crs u w := by omega
    exact pos_of_mulP hv h3
  · exfalso
    have e : crs v w = - (v.2 * w.1) := by unfold crs; rw [hv]; simp
    have hw1 : 0 ≤ w.1 := by rcases hw with hw | ⟨hw, _⟩ <;> omega
    have := Int.mul_nonneg (Int.le_of_lt hv2) hw1
    omega
/-- Slopes that do not fall. -/
theorem crs_trans_le {u v w : Pnt} (hu : Pos u) (hv : Pos v) (hw : Pos w) (h : 0 ≤ crs u v) (k : 0 ≤ crs v w) : 0 ≤ crs u w := by
  have hid := crs_id u v w
  have hw1 : 0 ≤ w.1 := by rcases hw with hw | ⟨hw, _⟩ <;> omega
  have hu1 : 0 ≤ u.1 := by rcases hu with hu | ⟨hu, _⟩ <;> omega
  rcases hv with hv | ⟨hv, hv2⟩
  · have h1 := Int.mul_nonneg hu1 k
    have h2 := Int.mul_nonneg hw1 h
    have h3 : 0 ≤ v.1 * crs u w := by omega
    exact nonneg_of_mulP hv h3
  · have e : crs v w = - (v.2 * w.1) := by unfold crs; rw [hv]; simp
    have hw0 : w.1 = 0 := by
      rcases Int.lt_or_eq_of_le hw1 with h0 | h0
      · have := mul_pos' hv2 h0
        omega
      · exact h0.symm
    have e2 : crs u w = u.1 * w.2 := by unfold crs; rw [hw0]; simp
    rw [e2]
    rcases hw with hw | ⟨_, hw⟩
    · omega
    · exact Int.mul_nonneg hu1 (Int.le_of_lt hw)
def sub2 (a b : Pnt) : Pnt := (a.1 - b.1, a.2 - b.2)
/-- Twice the area of a triangle. -/
def turnP (a b p : Pnt) : Int := crs (sub2 b a) (sub2 p a)
/-- The order of the points. -/
def ltP (a b : Pnt) : Prop := Pos (sub2 b a)
/-- The stack (its top first) behind the pops for p. -/
def hpop (p : Pnt) : List Pnt → List Pnt
  | b :: a :: s => if turnP a b p ≤ 0 then hpop p (a :: s) else b :: a :: s
  | s => s
/-- A chain: its points fall in order from the top, and it turns left at each. -/
def CH : List Pnt → Prop
  | b :: a :: z :: s => ltP a b ∧ 0 < turnP z a b ∧ CH (a :: z :: s)
  | b :: a :: [] => ltP a b
  | _ => True
/-- q is at the left of each edge, or on it. -/
def Lft (q : Pnt) : List Pnt → Prop
  | b :: a :: s => 0 ≤ turnP a b q ∧ Lft q (a :: s)
  | _ => True
theorem turn_flip (a b q : Pnt) : turnP a b q = crs (sub2 b a) (sub2 q a) := rfl
theorem crs_add {u v w : Pnt} (h1 : w.1 = v.1 + u.1) (h2 : w.2 = v.2 + u.2) : crs u w = crs u v := by
  unfold crs
  rw [h1, h2, Int.mul_add, Int.mul_add, Int.mul_comm u.1 u.2]
  omega
theorem crs_neg {u v w : Pnt} (h1 : w.1 = - v.1) (h2 : w.2 = - v.2) : crs u w = - crs u v := by
  unfold crs
  rw [h1, h2, Int.mul_neg, Int.mul_neg]
  omega
theorem turn_pop {t b p q : Pnt} (hb : ltP t b) (hp : ltP t p) (hq : ltP t q) (h : 0 ≤ turnP t b q) (k : turnP t b p ≤ 0) : 0 ≤ turnP t p q := by
  have e := crs_swap (sub2 p t) (sub2 b t)
  unfold turnP at *
  exact crs_trans_le hp hb hq (by omega) h
theorem turn_back {a t p q : Pnt} (ha : ltP a t) (hp : ltP t p) (hq : ltP q t) (h : 0 ≤ turnP a t q) (k : 0 < turnP a t p) : 0 ≤ turnP t p q := by
  have e1 : turnP a t p = crs (sub2 t a) (sub2 p t) := crs_add (by unfold sub2; simp only; omega) (by unfold sub2; simp only; omega)
  have e2 : crs (sub2 t a) (sub2 t q) = - crs (sub2 t a) (sub2 q a) := by
    have h1 : crs (sub2 t a) (sub2 q a) = crs (sub2 t a) (sub2 q t) := crs_add (by unfold sub2; simp only; omega) (by unfold sub2; simp only; omega)
    have h2 : crs (sub2 t a) (sub2 q t) = - crs (sub2 t a) (sub2 t q) := crs_neg (by unfold sub2; simp only; omega) (by unfold sub2; simp only; omega)
    omega
  have e3 := crs_swap (sub2 t q) (sub2 t a)
  have e4 : crs (sub2 p t) (sub2 q t) = - crs (sub2 p t) (sub2 t q) := crs_neg (by unfold sub2; simp only; omega) (by unfold sub2; simp only; omega)
  have e5 := crs_swap (sub2 p t) (sub2 t q)
  have h1 : 0 ≤ crs (sub2 t q) (sub2 t a) := by unfold turnP at h; omega
  have h2 : 0 ≤ crs (sub2 t a) (sub2 p t) := by omega
  have := crs_trans_le hq ha hp h1 h2
  unfold turnP
  omega
/-- A point beyond the chain's end, left of the last edge, is left of the edge before. -/
theorem turn_on {z a b p : Pnt} (ha : ltP z a) (hb : ltP a b) (hp : ltP b p) (h : 0 < turnP z a b) (k : 0 < turnP a b p) : 0 < turnP z a p := by
  have e1 : turnP z a b = crs (sub2 a z) (sub2 b a) := crs_add (by unfold sub2; simp only; omega) (by unfold sub2; simp only; omega)
  have e2 : turnP a b p = crs (sub2 b a) (sub2 p b) := crs_add (by unfold sub2; simp only; omega) (by unfold sub2; simp only; omega)
  have e3 : turnP z a p = crs (sub2 a z) (sub2 p a) := crs_add (by unfold sub2; simp only; omega) (by unfold sub2; simp only; omega)
  have h1 := crs_trans ha hb hp (by omega) (by omega)
  have e4 : crs (sub2 a z) (sub2 p a) = crs (sub2 a z) (sub2 p b) + crs (sub2 a z) (sub2 b a) := by
    unfold crs
    have : (sub2 p a).1 = (sub2 p b).1 + (sub2 b a).1 ∧ (sub2 p a).2 = (sub2 p b).2 + (sub2 b a).2 := by unfold sub2; simp only; omega
    rw [this.1, this.2, Int.mul_add, Int.mul_add]
    omega
  omega
theorem three (a b : Pnt) : a = b ∨ ltP a b ∨ ltP b a := by
  by_cases h : a = b
  · exact .inl h
  · have : a.1 ≠ b.1 ∨ a.2 ≠ b.2 := by
      by_cases h1 : a.1 = b.1
      · exact .inr fun h2 => h (Prod.ext h1 h2)
      · exact .inl h1
    unfold ltP Pos sub2
    simp only
    omega
theorem ltP_trans {a b c : Pnt} (h : ltP a b) (k : ltP b c) : ltP a c := by
  unfold ltP Pos sub2 at *
  simp only at *
  omega
theorem ltP_irrefl (a : Pnt) : ¬ ltP a a := by
  unfold ltP Pos sub2
  simp only
  omega
theorem turn_same1 (a p : Pnt) : turnP a p a = 0 := by
  unfold turnP crs sub2
  simp
theorem turn_same2 (a p : Pnt) : turnP a p p = 0 := by
  unfold turnP crs
  rw [Int.mul_comm]
  omega
theorem lft_chain {p : Pnt} : ∀ (s : List Pnt) (b a : Pnt), CH (b :: a :: s) → ltP b p → 0 < turnP a b p → Lft p (b :: a :: s)
  | [], b, a, _, _, h => ⟨Int.le_of_lt h, trivial⟩
  | z :: s, b, a, hc, hb, h => ⟨Int.le_of_lt h, lft_chain s a z hc.2.2 (ltP_trans hc.1 hb) (turn_on (by
      have := hc.2.2
      cases s with
      | nil => exact this
      | cons y s => exact this.1) hc.1 hb hc.2.1 h)⟩
theorem hpop_spec {D : Pnt → Prop} {p s0 : Pnt} (hge : ∀ q, D q → q = s0 ∨ ltP s0 q) (hp : ∀ q, D q → ltP q p) : ∀ S : List Pnt, CH S → (∀ q, D q → Lft q S) → S.getLast? = some s0 → (∀ v ∈ S, D v) →
    (∀ t, S.head? = some t → ∀ q, D q → ltP t q → 0 ≤ turnP t p q) →
    CH (p :: hpop p S) ∧ (∀ q, D q → Lft q (p :: hpop p S)) ∧ Lft p (p :: hpop p S) ∧ (hpop p S).getLast? = some s0 ∧ ∀ v ∈ hpop p S, v ∈ S
  | [], _, _, h, _, _ => by simp at h
  | [a], _, _, hl, hm, hh => by
    have e : a = s0 := by simpa using hl
    refine ⟨hp a (hm a (by simp)), fun q hq => ⟨?_, trivial⟩, ⟨by rw [turn_same2]; exact Int.le_refl _, trivial⟩, hl, fun v hv => hv⟩
    rcases hge q hq with h | h
    · rw [h, ← e, turn_same1]; exact Int.le_refl _
    · exact hh a rfl q hq (by rw [e]; exact h)
  | b :: a :: s, hc, hL, hl, hm, hh => by
    have hab : ltP a b := by
      cases s with
      | nil => exact hc
      | cons z s => exact hc.1
    have hc2 : CH (a :: s) := by
      cases s with
      | nil => trivial
      | cons z s => exact hc.2.2
    rw [hpop]
    by_cases h : turnP a b p ≤ 0
    · rw [if_pos h]
      obtain ⟨h1, h2, h3, h4, h5⟩ := hpop_spec hge hp (a :: s) hc2 (fun q hq => (hL q hq).2) (by simpa using hl) (fun v hv => hm v (List.mem_cons_of_mem _ hv)) (fun t ht q hq hlt => by
        obtain rfl : a = t := by simpa using ht
        exact turn_pop hab (hp _ (hm a (by simp))) hlt (hL q hq).1 h)
      exact ⟨h1, h2, h3, h4, fun v hv => List.mem_cons_of_mem _ (h5 v hv)⟩
    · rw [if_neg h]
      have hbp := hp b (hm b (by simp))
      refine ⟨⟨hbp, by omega, hc⟩, fun q hq => ⟨?_, hL q hq⟩, ⟨by rw [turn_same2]; exact Int.le_refl _, lft_chain s b a hc hbp (by omega)⟩, hl, fun v hv => hv⟩
      rcases three b q with e | e | e
      · rw [← e, turn_same1]; exact Int.le_refl _
      · exact hh b rfl q hq e
      · exact turn_back hab hbp e (hL q hq).1 (by omega)
abbrev SortedP (l : List Pnt) : Prop := l.Pairwise ltP
def hstep (s : List Pnt) (p : Pnt) : List Pnt := p :: hpop p s
/-- One half of the hull, its last point first. -/
def halfS (l : List Pnt) : List Pnt := l.foldl hstep []
/-- What a half is over the points done, the first of them s0. -/
structure HalfOf (s0 : Pnt) (done S : List Pnt) : Prop where
  ch : CH S
  left : ∀ q ∈ done, Lft q S
  bot : S.getLast? = some s0
  mem : ∀ v ∈ S, v ∈ done
  top : S.head? = done.getLast?
theorem half_go {s0 : Pnt} : ∀ (l done S : List Pnt), SortedP (done ++ l) → done.head? = some s0 → HalfOf s0 done S → HalfOf s0 (done ++ l) (l.foldl hstep S)
  | [], done, S, _, _, h => by simpa using h
  | p :: l, done, S, hs, h0, h => by
    have hs1 : SortedP done := (List.pairwise_append.1 hs).1
    have hp : ∀ q ∈ done, ltP q p := fun q hq => (List.pairwise_append.1 hs).2.2 q hq p (by simp)
    have hge : ∀ q ∈ done, q = s0 ∨ ltP s0 q := fun q hq => by
      match done, h0, hs1, hq with
      | a :: d, h0, hs1, hq =>
        obtain rfl : a = s0 := by simpa using h0
        rcases List.mem_cons.1 hq with hq | hq
        · exact .inl hq
        · exact .inr ((List.pairwise_cons.1 hs1).1 q hq)
    obtain ⟨h1, h2, h3, h4, h5⟩ := hpop_spec (D := fun q => q ∈ done) hge hp S h.ch h.left h.bot h.mem (fun t ht q hq hlt => by
      exfalso
      rw [h.top] at ht
      obtain ⟨d, hd⟩ : ∃ d, done = d ++ [t] := by
        rcases List.eq_nil_or_concat done with e | ⟨d, x, e⟩
        · rw [e] at ht; simp at ht
        · rw [e] at ht
          simp at ht
          exact ⟨d, by rw [e, ht]; simp⟩
      rw [hd] at hq hs1
      rcases List.mem_append.1 hq with hq | hq
      · exact ltP_irrefl _ (ltP_trans hlt ((List.pairwise_append.1 hs1).2.2 q hq t (by simp)))
      · obtain rfl : q = t := by simpa using hq
        exact ltP_irrefl _ hlt)
    have := half_go l (done ++ [p]) (hstep S p) (by rw [List.append_assoc]; exact hs) (by
      cases done with
      | nil => simp at h0
      | cons a d => exact h0) ⟨h1, fun q hq => by
        rcases List.mem_append.1 hq with hq | hq
        · exact h2 q hq
        · obtain rfl : q = p := by simpa using hq
          exact h3, by
        show (p :: hpop p S).getLast? = some s0
        rw [List.getLast?_cons, h4]; rfl, fun v hv => by
        rcases List.mem_cons.1 hv with hv | hv
        · simp [hv]
        · exact List.mem_append_left _ (h.mem v (h5 v hv)), by simp [hstep]⟩
    rwa [List.append_assoc] at this
theorem half_of {a : Pnt} {l : List Pnt} (h : SortedP (a :: l)) : HalfOf a (a :: l) (halfS (a :: l)) :=
  half_go l [a] [a] h rfl ⟨trivial, fun _ _ => trivial, rfl, fun _ hv => hv, rfl⟩
theorem crs_trans_lt {u v w : Pnt} (hu : Pos u) (hv : Pos v) (hw : Pos w) (h : 0 ≤ crs u v) (k : 0 < crs v w) : 0 < crs u w := by
  have hid := crs_id u v w
  have hw1 : 0 ≤ w.1 := by rcases hw with hw | ⟨hw, _⟩ <;> omega
  rcases hv with hv | ⟨hv, hv2⟩
  · have hu1 : 0 < u.1 := by
      rcases hu with hu | ⟨hu, hu2⟩
      · exact hu
      · exfalso
        have : crs u v = - (u.2 * v.1) := by unfold crs; rw [hu]; simp
        have := mul_pos' hu2 hv
        omega
    have h1 := mul_pos' hu1 k
    have h2 := Int.mul_nonneg hw1 h
    exact pos_of_mulP hv (by omega)
  · exfalso
    have e : crs v w = - (v.2 * w.1) := by unfold crs; rw [hv]; simp
    have := Int.mul_nonneg (Int.le_of_lt hv2) hw1
    omega
theorem ch_head {b a : Pnt} {s : List Pnt} (h : CH (b :: a :: s)) : ltP a b := by
  cases s with
  | nil => exact h
  | cons z s => exact h.1
theorem ch_tail {b : Pnt} : ∀ {s : List Pnt}, CH (b :: s) → CH s
  | [], _ => trivial
  | [_], _ => trivial
  | _ :: _ :: _, h => h.2.2
/-- The nearer of two next points contradicts. -/
theorem chain_no {t a a' s0 : Pnt} {s : List Pnt} (hc : CH (t :: a :: s)) (hl : (t :: a :: s).getLast? = some s0) (h1 : Lft a' (t :: a :: s)) (h2 : 0 ≤ turnP a' t a) (hlt : ltP a' a) (hge : a' = s0 ∨ ltP s0 a') : False := by
  cases s with
  | nil =>
    have e : a = s0 := by simpa using hl
    rcases hge with h | h
    · rw [h, e] at hlt; exact ltP_irrefl _ hlt
    · rw [e] at hlt; exact ltP_irrefl _ (ltP_trans hlt h)
  | cons z s =>
    have hat := hc.1
    have hza := ch_head hc.2.2
    have k1 := h1.2.1
    have k2 := hc.2.1
    have e1 : turnP z a t = crs (sub2 a z) (sub2 t a) := crs_add (by unfold sub2; simp only; omega) (by unfold sub2; simp only; omega)
    have e2 : turnP z a a' = crs (sub2 a z) (sub2 a' a) := crs_add (by unfold sub2; simp only; omega) (by unfold sub2; simp only; omega)
    have e3 : crs (sub2 a z) (sub2 a' a) = - crs (sub2 a z) (sub2 a a') := crs_neg (by unfold sub2; simp only; omega) (by unfold sub2; simp only; omega)
    have e4 := crs_swap (sub2 a a') (sub2 a z)
    have h3 := crs_trans_lt (u := sub2 a a') (v := sub2 a z) (w := sub2 t a) hlt hza hat (by omega) (by omega)
    have e5 : turnP a' t a = - crs (sub2 a a') (sub2 t a') := crs_swap _ _
    have e6 : crs (sub2 a a') (sub2 t a') = crs (sub2 a a') (sub2 t a) := crs_add (by unfold sub2; simp only; omega) (by unfold sub2; simp only; omega)
    omega
theorem chain_uniq {pts : List Pnt} {s0 : Pnt} (hge : ∀ q ∈ pts, q = s0 ∨ ltP s0 q) : ∀ (L L' : List Pnt), CH L → CH L' → L.head? = L'.head? → L.getLast? = some s0 → L'.getLast? = some s0 → (∀ v ∈ L, v ∈ pts) → (∀ v ∈ L', v ∈ pts) →
    (∀ q ∈ pts, Lft q L) → (∀ q ∈ pts, Lft q L') → L = L'
  | [], _, _, _, _, h, _, _, _, _, _ => by simp at h
  | _ :: _, [], _, _, _, _, h, _, _, _, _ => by simp at h
  | [t], [t'], _, _, h, _, _, _, _, _, _ => by simpa using h
  | [t], t' :: a' :: s', _, hc, h, hl, _, _, hm, _, _ => by
    exfalso
    obtain rfl : t = t' := by simpa using h
    have e : t = s0 := by simpa using hl
    have h1 := ch_head hc
    rcases hge a' (hm a' (by simp)) with h2 | h2
    · rw [h2, e] at h1; exact ltP_irrefl _ h1
    · rw [e] at h1; exact ltP_irrefl _ (ltP_trans h1 h2)
  | t :: a :: s, [t'], hc, _, h, _, hl, hm, _, _, _ => by
    exfalso
    obtain rfl : t = t' := by simpa using h
    have e : t = s0 := by simpa using hl
    have h1 := ch_head hc
    rcases hge a (hm a (by simp)) with h2 | h2
    · rw [h2, e] at h1; exact ltP_irrefl _ h1
    · rw [e] at h1; exact ltP_irrefl _ (ltP_trans h1 h2)
  | t :: a :: s, t' :: a' :: s', hc, hc', h, hl, hl', hm, hm', hL, hL' => by
    obtain rfl : t = t' := by simpa using h
    have ma := hm a (by simp)
    have ma' := hm' a' (by simp)
    rcases three a a' with e | e | e
    · subst e
      rw [chain_uniq hge (a :: s) (a :: s') (ch_tail hc) (ch_tail hc') rfl (by simpa using hl) (by simpa using hl') (fun v hv => hm v (List.mem_cons_of_mem _ hv)) (fun v hv => hm' v (List.mem_cons_of_mem _ hv)) (fun q hq => (hL q hq).2) (fun q hq => (hL' q hq).2)]
    · exact (chain_no hc' hl' (hL' a ma) (hL a' ma').1 e (hge a ma)).elim
    · exact (chain_no hc hl (hL a' ma') (hL' a ma).1 e (hge a' ma')).elim
end Go.Proofs.YtfkglbmdpefigaaGreatDoor
