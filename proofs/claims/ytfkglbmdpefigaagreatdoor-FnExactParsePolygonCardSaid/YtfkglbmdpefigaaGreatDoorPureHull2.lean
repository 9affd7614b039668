/- The back half, the hull, and that the hull of a hull is itself. No program is named here. -/
import Derived.Test.YtfkglbmdpefigaaGreatDoorPureHull
namespace Go.Proofs.YtfkglbmdpefigaaGreatDoor
def negP (p : Pnt) : Pnt := (-p.1, -p.2)
theorem turn_neg (a b p : Pnt) : turnP (negP a) (negP b) (negP p) = turnP a b p := by
  have h1 : crs (sub2 (negP b) (negP a)) (sub2 (negP p) (negP a)) = - crs (sub2 (negP b) (negP a)) (sub2 p a) := crs_neg (by unfold sub2 negP; simp only; omega) (by unfold sub2 negP; simp only; omega)
  have h2 := crs_swap (sub2 (negP b) (negP a)) (sub2 p a)
  have h3 : crs (sub2 p a) (sub2 (negP b) (negP a)) = - crs (sub2 p a) (sub2 b a) := crs_neg (by unfold sub2 negP; simp only; omega) (by unfold sub2 negP; simp only; omega)
  have h4 := crs_swap (sub2 p a) (sub2 b a)
  unfold turnP
  omega
theorem ltP_neg (a b : Pnt) : ltP (negP a) (negP b) ↔ ltP b a := by
  unfold ltP Pos sub2 negP
  simp only
  omega
theorem neg_neg (a : Pnt) : negP (negP a) = a := by unfold negP; simp
theorem hpop_neg (p : Pnt) : ∀ s : List Pnt, hpop (negP p) (s.map negP) = (hpop p s).map negP
  | [] => rfl
  | [_] => rfl
  | b :: a :: s => by
    have ih := hpop_neg p (a :: s)
    simp only [List.map_cons] at ih ⊢
    rw [hpop, hpop, turn_neg]
    split
    · exact ih
    · rfl
theorem foldl_neg : ∀ (l s : List Pnt), (l.map negP).foldl hstep (s.map negP) = (l.foldl hstep s).map negP
  | [], _ => rfl
  | p :: l, s => by
    have : hstep (s.map negP) (negP p) = (hstep s p).map negP := by unfold hstep; rw [hpop_neg]; rfl
    rw [List.map_cons, List.foldl_cons, List.foldl_cons, this, foldl_neg l]
theorem halfS_neg (l : List Pnt) : halfS (l.map negP) = (halfS l).map negP := foldl_neg l []
theorem half_sub {S S' : List Pnt} (hS : SortedP S) (hS' : SortedP S') (hne : S ≠ []) (h1 : ∀ v ∈ S', v ∈ S) (h2 : ∀ v ∈ halfS S, v ∈ S') : halfS S' = halfS S := by
  obtain ⟨a, r, rfl⟩ : ∃ a r, S = a :: r := by
    cases S with
    | nil => exact absurd rfl hne
    | cons a r => exact ⟨a, r, rfl⟩
  have H := half_of hS
  have ha' : a ∈ S' := h2 a (List.mem_of_getLast? H.bot)
  obtain ⟨b, r', rfl⟩ : ∃ b r', S' = b :: r' := by
    cases S' with
    | nil => simp at ha'
    | cons b r' => exact ⟨b, r', rfl⟩
  have H' := half_of hS'
  have hab : b = a := by
    rcases List.mem_cons.1 ha' with e | e
    · exact e.symm
    · have k1 := (List.pairwise_cons.1 hS').1 a e
      rcases List.mem_cons.1 (h1 b (by simp)) with e2 | e2
      · exact e2
      · exact (ltP_irrefl _ (ltP_trans k1 ((List.pairwise_cons.1 hS).1 b e2))).elim
  subst hab
  refine chain_uniq (pts := b :: r') (s0 := b) (fun q hq => ?_) _ _ H'.ch H.ch ?_ H'.bot H.bot H'.mem h2 H'.left (fun q hq => H.left q (h1 q hq))
  · rcases List.mem_cons.1 hq with e | e
    · exact .inl e
    · exact .inr ((List.pairwise_cons.1 hS').1 q e)
  · rw [H'.top, H.top]
    obtain ⟨x, hx⟩ : ∃ x, (b :: r').getLast? = some x := ⟨_, List.getLast?_eq_some_getLast (by simp)⟩
    obtain ⟨y, hy⟩ : ∃ y, (b :: r).getLast? = some y := ⟨_, List.getLast?_eq_some_getLast (by simp)⟩
    have ht : (halfS (b :: r)).head? = some y := by rw [H.top, hy]
    have hyS' : y ∈ b :: r' := h2 y (List.mem_of_head? ht)
    have hxS : x ∈ b :: r := h1 x (List.mem_of_getLast? hx)
    have key : ∀ (T : List Pnt) (z : Pnt), SortedP T → T.getLast? = some z → ∀ q ∈ T, q = z ∨ ltP q z := fun T z hT hz q hq => by
      obtain ⟨d, hd⟩ : ∃ d, T = d ++ [z] := by
        rcases List.eq_nil_or_concat T with e | ⟨d, w, e⟩
        · rw [e] at hz; simp at hz
        · rw [e] at hz
          simp at hz
          exact ⟨d, by rw [e, hz]; simp⟩
      rw [hd] at hq hT
      rcases List.mem_append.1 hq with hq | hq
      · exact .inr ((List.pairwise_append.1 hT).2.2 q hq z (by simp))
      · exact .inl (by simpa using hq)
    rw [hx, hy]
    rcases key _ _ hS' hx y hyS' with e | e
    · rw [e]
    · rcases key _ _ hS hy x hxS with e2 | e2
      · rw [e2]
      · exact (ltP_irrefl _ (ltP_trans e e2)).elim
instance (a b : Pnt) : Decidable (ltP a b) := by unfold ltP Pos; infer_instance
def insP (p : Pnt) : List Pnt → List Pnt
  | [] => [p]
  | a :: S => if ltP a p then a :: insP p S else if a = p then a :: S else p :: a :: S
theorem insP_mem (p u : Pnt) : ∀ S : List Pnt, u ∈ insP p S ↔ u = p ∨ u ∈ S
  | [] => by simp [insP]
  | a :: S => by
    have ih := insP_mem p u S
    rw [insP]
    split
    · simp only [List.mem_cons, ih]
      constructor
      · rintro (h | h | h) <;> simp [h]
      · rintro (h | h | h) <;> simp [h]
    · split
      · rename_i e
        simp only [List.mem_cons]
        constructor
        · intro h; exact .inr h
        · rintro (h | h)
          · exact .inl (h.trans e.symm)
          · exact h
      · simp only [List.mem_cons]
theorem insP_sorted (p : Pnt) : ∀ S : List Pnt, SortedP S → SortedP (insP p S)
  | [], _ => by simp [insP]
  | a :: S, h => by
    obtain ⟨h1, h2⟩ := List.pairwise_cons.1 h
    rw [insP]
    split
    · rename_i hl
      refine List.pairwise_cons.2 ⟨fun u hu => ?_, insP_sorted p S h2⟩
      rcases (insP_mem p u S).1 hu with e | e
      · rw [e]; exact hl
      · exact h1 u e
    · split
      · exact h
      · rename_i hl hne
        have hpa : ltP p a := by
          rcases three a p with e | e | e
          · exact absurd e hne
          · exact absurd e hl
          · exact e
        refine List.pairwise_cons.2 ⟨fun u hu => ?_, h⟩
        rcases List.mem_cons.1 hu with e | e
        · rw [e]; exact hpa
        · exact ltP_trans hpa (h1 u e)
def insAll (S l : List Pnt) : List Pnt := l.foldl (fun S p => insP p S) S
def sortP (l : List Pnt) : List Pnt := insAll [] l
theorem insAll_mem (u : Pnt) : ∀ (l S : List Pnt), u ∈ insAll S l ↔ u ∈ S ∨ u ∈ l
  | [], S => by simp [insAll]
  | p :: l, S => by
    have ih := insAll_mem u l (insP p S)
    rw [insP_mem] at ih
    show u ∈ insAll (insP p S) l ↔ _
    rw [ih, List.mem_cons]
    constructor
    · rintro ((h | h) | h) <;> simp [h]
    · rintro (h | h | h) <;> simp [h]
theorem insAll_sorted : ∀ (l S : List Pnt), SortedP S → SortedP (insAll S l)
  | [], _, h => h
  | p :: l, S, h => insAll_sorted l _ (insP_sorted p S h)
theorem sortP_mem (u : Pnt) (l : List Pnt) : u ∈ sortP l ↔ u ∈ l := by rw [sortP, insAll_mem]; simp
theorem sortP_sorted (l : List Pnt) : SortedP (sortP l) := insAll_sorted l [] List.Pairwise.nil
theorem sortedP_ext : ∀ {S S' : List Pnt}, SortedP S → SortedP S' → (∀ t, t ∈ S ↔ t ∈ S') → S = S'
  | [], [], _, _, _ => rfl
  | [], b :: S', _, _, h => by have := (h b).2 (by simp); simp at this
  | a :: S, [], _, _, h => by have := (h a).1 (by simp); simp at this
  | a :: S, b :: S', h1, h2, h => by
    obtain ⟨a1, a2⟩ := List.pairwise_cons.1 h1
    obtain ⟨b1, b2⟩ := List.pairwise_cons.1 h2
    have hab : a = b := by
      rcases List.mem_cons.1 ((h a).1 (by simp)) with e | e
      · exact e
      · rcases List.mem_cons.1 ((h b).2 (by simp)) with e2 | e2
        · exact e2.symm
        · exact (ltP_irrefl _ (ltP_trans (b1 a e) (a1 b e2))).elim
    subst hab
    rw [sortedP_ext a2 b2 fun t => ?_]
    constructor
    · intro ht
      rcases List.mem_cons.1 ((h t).1 (List.mem_cons_of_mem _ ht)) with e | e
      · exact (ltP_irrefl a (by have := a1 t ht; rwa [e] at this)).elim
      · exact e
    · intro ht
      rcases List.mem_cons.1 ((h t).2 (List.mem_cons_of_mem _ ht)) with e | e
      · exact (ltP_irrefl a (by have := b1 t ht; rwa [e] at this)).elim
      · exact e
theorem sortP_self {S : List Pnt} (h : SortedP S) : sortP S = S := sortedP_ext (sortP_sorted S) h fun t => sortP_mem t S
def hullP (l : List Pnt) : List Pnt := if (sortP l).length < 2 then sortP l else (halfS (sortP l)).reverse.dropLast ++ (halfS (sortP l).reverse).reverse.dropLast
theorem back_sorted {S : List Pnt} (h : SortedP S) : SortedP (S.reverse.map negP) := by
  rw [SortedP, List.pairwise_map, List.pairwise_reverse]
  exact h.imp fun hab => (ltP_neg _ _).2 hab
theorem map_neg_inj {a b : List Pnt} (h : a.map negP = b.map negP) : a = b := by
  have := congrArg (List.map negP) h
  simpa [List.map_map, Function.comp_def, neg_neg] using this
theorem ends_mem {X : List Pnt} {x y : Pnt} (h : X.head? = some x) (k : X.getLast? = some y) (hne : x ≠ y) : y ∈ X.tail ∧ ∀ v, v ∈ X ↔ v = x ∨ v ∈ X.tail := by
  cases X with
  | nil => simp at h
  | cons a r =>
    obtain rfl : a = x := by simpa using h
    refine ⟨?_, fun v => by simp⟩
    have := List.mem_of_getLast? k
    rcases List.mem_cons.1 this with e | e
    · exact absurd e.symm hne
    · exact e
theorem hull_idem (l : List Pnt) : hullP (hullP l) = hullP l := by
  by_cases hlen : (sortP l).length < 2
  · have e : hullP l = sortP l := by rw [hullP, if_pos hlen]
    rw [e, hullP, sortP_self (sortP_sorted l), if_pos hlen]
  · have e : hullP l = (halfS (sortP l)).reverse.dropLast ++ (halfS (sortP l).reverse).reverse.dropLast := by rw [hullP, if_neg hlen]
    have hS := sortP_sorted l
    generalize hSS : sortP l = S at *
    have hne : S ≠ [] := by intro h; rw [h] at hlen; simp at hlen
    obtain ⟨s, hs⟩ : ∃ s, S.head? = some s := by cases S with
      | nil => exact absurd rfl hne
      | cons a r => exact ⟨a, rfl⟩
    obtain ⟨t, ht⟩ : ∃ t, S.getLast? = some t := ⟨_, List.getLast?_eq_some_getLast hne⟩
    have hst : s ≠ t := by
      match S, hs, ht, hS, hlen with
      | [a], _, _, _, h => simp at h
      | a :: b :: r, hs, ht, hS, _ =>
        obtain rfl : a = s := by simpa using hs
        intro e
        have h1 : t ∈ b :: r := List.mem_of_getLast? (by simpa using ht)
        have := (List.pairwise_cons.1 hS).1 t h1
        rw [e] at this
        exact ltP_irrefl _ this
    have HL : HalfOf s S (halfS S) := by
      cases S with
      | nil => exact absurd rfl hne
      | cons a r =>
        obtain rfl : a = s := by simpa using hs
        exact half_of hS
    have HU : HalfOf (negP t) (S.reverse.map negP) ((halfS S.reverse).map negP) := by
      have hb := back_sorted hS
      have hh : (S.reverse.map negP).head? = some (negP t) := by rw [List.head?_map, List.head?_reverse, ht]; rfl
      rw [← halfS_neg]
      generalize S.reverse.map negP = R at *
      cases R with
      | nil => simp at hh
      | cons a r =>
        obtain rfl : a = negP t := by simpa using hh
        exact half_of hb
    have l1 : (halfS S).head? = some t := by rw [HL.top, ht]
    have l2 := HL.bot
    have inj : ∀ {a b : Pnt}, negP a = negP b → a = b := fun {a b} h => by have := congrArg negP h; rwa [neg_neg, neg_neg] at this
    have u1 : (halfS S.reverse).head? = some s := by
      have := HU.top
      rw [List.head?_map, List.getLast?_map, List.getLast?_reverse, hs] at this
      cases hq : (halfS S.reverse).head? with
      | none => rw [hq] at this; simp at this
      | some q => rw [hq] at this; simp at this; rw [inj this]
    have u2 : (halfS S.reverse).getLast? = some t := by
      have := HU.bot
      rw [List.getLast?_map] at this
      cases hq : (halfS S.reverse).getLast? with
      | none => rw [hq] at this; simp at this
      | some q => rw [hq] at this; simp at this; rw [inj this]
    obtain ⟨m1, m2⟩ := ends_mem l1 l2 (Ne.symm hst)
    obtain ⟨n1, n2⟩ := ends_mem u1 u2 hst
    have memH : ∀ v, v ∈ hullP l ↔ v ∈ halfS S ∨ v ∈ halfS S.reverse := fun v => by
      rw [e, List.dropLast_reverse, List.dropLast_reverse, List.mem_append, List.mem_reverse, List.mem_reverse, m2 v, n2 v]
      constructor
      · rintro (h | h)
        · exact .inl (.inr h)
        · exact .inr (.inr h)
      · rintro ((h | h) | (h | h))
        · rw [h]; exact .inr n1
        · exact .inl h
        · rw [h]; exact .inl m1
        · exact .inr h
    have memU : ∀ v ∈ halfS S.reverse, v ∈ S := fun v hv => by
      have := HU.mem (negP v) (List.mem_map_of_mem hv)
      obtain ⟨q, hq, e2⟩ := List.mem_map.1 this
      rw [← inj e2]
      exact List.mem_reverse.1 hq
    have sub : ∀ v ∈ sortP (hullP l), v ∈ S := fun v hv => by
      rcases (memH v).1 ((sortP_mem v _).1 hv) with h | h
      · exact HL.mem v h
      · exact memU v h
    have hS' := sortP_sorted (hullP l)
    have e1 : halfS (sortP (hullP l)) = halfS S := half_sub hS hS' hne sub fun v hv => (sortP_mem v _).2 ((memH v).2 (.inl hv))
    have e2 : halfS (sortP (hullP l)).reverse = halfS S.reverse := by
      apply map_neg_inj
      rw [← halfS_neg, ← halfS_neg]
      refine half_sub (back_sorted hS) (back_sorted hS') (by simpa using hne) (fun v hv => ?_) (fun v hv => ?_)
      · obtain ⟨q, hq, rfl⟩ := List.mem_map.1 hv
        exact List.mem_map_of_mem (List.mem_reverse.2 (sub q (List.mem_reverse.1 hq)))
      · rw [halfS_neg] at hv
        obtain ⟨q, hq, rfl⟩ := List.mem_map.1 hv
        exact List.mem_map_of_mem (List.mem_reverse.2 ((sortP_mem q _).2 ((memH q).2 (.inr hq))))
    have hl2 : ¬ (sortP (hullP l)).length < 2 := by
      have a1 : s ∈ sortP (hullP l) := (sortP_mem s _).2 ((memH s).2 (.inl (List.mem_of_getLast? l2)))
      have a2 : t ∈ sortP (hullP l) := (sortP_mem t _).2 ((memH t).2 (.inl (List.mem_of_head? l1)))
      intro h
      match hq : sortP (hullP l), h with
      | [], _ => rw [hq] at a1; simp at a1
      | [x], _ =>
        rw [hq] at a1 a2
        simp at a1 a2
        exact hst (a1.trans a2.symm)
      | _ :: _ :: _, h => simp at h; omega
    rw [hullP, if_neg hl2, e1, e2, ← e]
end Go.Proofs.YtfkglbmdpefigaaGreatDoor
