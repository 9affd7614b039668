/- Gathering terms: insertion one by one, and sorting with a pass that keeps the first of each exponents, come to the same list. Plain Lean, no program in sight. -/
import Derived.Test.YtfamemjlhgkneaaPurePlane2
namespace Go.Proofs.Ytfamemjlhgkneaa
def same (a b : Trm) : Prop := a.1 = b.1 ∧ a.2.1 = b.2.1
instance (a b : Trm) : Decidable (same a b) := inferInstanceAs (Decidable (_ ∧ _))
theorem same_symm {a b : Trm} (h : same a b) : same b a := ⟨h.1.symm, h.2.symm⟩
theorem same_trans {a b c : Trm} (h : same a b) (k : same b c) : same a c := ⟨h.1.trans k.1, h.2.trans k.2⟩
theorem same_cmp (a b : Trm) : cmpT a b = 0 ↔ same a b := by
  unfold cmpT same
  split <;> omega
theorem ltT_not_same {a b : Trm} (h : ltT a b = true) : ¬ same a b := by
  rw [ltT_iff] at h
  unfold same
  omega
theorem ltT_irrefl (a : Trm) : ltT a a = false := by
  cases h : ltT a a
  · rfl
  · rw [ltT_iff] at h; omega
theorem ltT_three (a b : Trm) : ltT a b = true ∨ ltT b a = true ∨ same a b := by
  rw [ltT_iff, ltT_iff]
  unfold same
  omega
theorem ltT_same_l {a b c : Trm} (h : same a b) (k : ltT b c = true) : ltT a c = true := by
  rw [ltT_iff] at *
  unfold same at h
  omega
theorem ltT_same_r {a b c : Trm} (h : ltT a b = true) (k : same b c) : ltT a c = true := by
  rw [ltT_iff] at *
  unfold same at k
  omega
abbrev Sorted (S : List Trm) : Prop := S.Pairwise fun a b => ltT a b = true
theorem sorted_ext : ∀ {S S' : List Trm}, Sorted S → Sorted S' → (∀ t, t ∈ S ↔ t ∈ S') → S = S'
  | [], [], _, _, _ => rfl
  | [], b :: S', _, _, h => absurd ((h b).2 (by simp)) (by simp)
  | a :: S, [], _, _, h => absurd ((h a).1 (by simp)) (by simp)
  | a :: S, b :: S', h1, h2, h => by
    rw [Sorted, List.pairwise_cons] at h1 h2
    have hab : a = b := by
      have ha := List.mem_cons.1 ((h a).1 (by simp))
      have hb := List.mem_cons.1 ((h b).2 (by simp))
      rcases ha with ha | ha
      · exact ha
      · rcases hb with hb | hb
        · exact hb.symm
        · have := ltT_trans (h1.1 b hb) (h2.1 a ha)
          rw [ltT_irrefl] at this
          cases this
    subst hab
    congr 1
    refine sorted_ext h1.2 h2.2 fun t => ⟨fun ht => ?_, fun ht => ?_⟩
    · rcases List.mem_cons.1 ((h t).1 (List.mem_cons_of_mem _ ht)) with e | e
      · subst e
        have := h1.1 t ht
        rw [ltT_irrefl] at this
        cases this
      · exact e
    · rcases List.mem_cons.1 ((h t).2 (List.mem_cons_of_mem _ ht)) with e | e
      · subst e
        have := h2.1 t ht
        rw [ltT_irrefl] at this
        cases this
      · exact e
/-- S holds of each exponents of l the term with the least coefficient, in order. -/
def Rep (l S : List Trm) : Prop := Sorted S ∧ ∀ u, u ∈ S ↔ u ∈ l ∧ ∀ v ∈ l, same v u → u.2.2 ≤ v.2.2
theorem rep_uniq {l l' S S' : List Trm} (h : Rep l S) (h' : Rep l' S') (hp : ∀ t, t ∈ l ↔ t ∈ l') : S = S' := by
  refine sorted_ext h.1 h'.1 fun t => ?_
  rw [h.2, h'.2, hp]
  constructor
  · rintro ⟨h1, h2⟩; exact ⟨h1, fun v hv => h2 v ((hp v).2 hv)⟩
  · rintro ⟨h1, h2⟩; exact ⟨h1, fun v hv => h2 v ((hp v).1 hv)⟩
/- Insertion -/
def putT (t : Trm) : List Trm → List Trm
  | [] => [t]
  | a :: S => if ltT a t then a :: putT t S else if ltT t a then t :: a :: S else (t.1, t.2.1, min t.2.2 a.2.2) :: S
theorem putT_mem {t : Trm} : ∀ {S : List Trm}, Sorted S → ∀ u, u ∈ putT t S ↔ (same u t ∧ ((∃ a ∈ S, same a t ∧ u = (t.1, t.2.1, min t.2.2 a.2.2)) ∨ (∀ a ∈ S, ¬ same a t) ∧ u = t)) ∨ (u ∈ S ∧ ¬ same u t)
  | [], _, u => by
    simp only [putT, List.mem_singleton, List.not_mem_nil, false_and, exists_false, false_or, or_false, false_imp_iff, implies_true, true_and]
    exact ⟨fun h => ⟨by subst h; exact ⟨rfl, rfl⟩, h⟩, fun h => h.2⟩
  | a :: S, hs, u => by
    rw [Sorted, List.pairwise_cons] at hs
    rw [putT]
    split
    · rename_i h1
      have hns := ltT_not_same h1
      rw [List.mem_cons, putT_mem hs.2 u]
      constructor
      · rintro (rfl | ⟨h, (⟨b, hb, h2, h3⟩ | ⟨h2, h3⟩)⟩ | ⟨h, h2⟩)
        · exact .inr ⟨by simp, hns⟩
        · exact .inl ⟨h, .inl ⟨b, List.mem_cons_of_mem _ hb, h2, h3⟩⟩
        · refine .inl ⟨h, .inr ⟨fun b hb => ?_, h3⟩⟩
          rcases List.mem_cons.1 hb with rfl | hb
          · exact hns
          · exact h2 b hb
        · exact .inr ⟨List.mem_cons_of_mem _ h, h2⟩
      · rintro (⟨h, (⟨b, hb, h2, h3⟩ | ⟨h2, h3⟩)⟩ | ⟨h, h2⟩)
        · rcases List.mem_cons.1 hb with rfl | hb
          · exact absurd h2 hns
          · exact .inr (.inl ⟨h, .inl ⟨b, hb, h2, h3⟩⟩)
        · exact .inr (.inl ⟨h, .inr ⟨fun b hb => h2 b (List.mem_cons_of_mem _ hb), h3⟩⟩)
        · rcases List.mem_cons.1 h with rfl | h
          · exact .inl rfl
          · exact .inr (.inr ⟨h, h2⟩)
    · rename_i h1
      split
      · rename_i h2
        have hall : ∀ b ∈ a :: S, ¬ same b t := by
          intro b hb hsm
          rcases List.mem_cons.1 hb with rfl | hb
          · exact ltT_not_same h2 (same_symm hsm)
          · exact ltT_not_same (ltT_trans h2 (hs.1 b hb)) (same_symm hsm)
        rw [List.mem_cons]
        constructor
        · rintro (rfl | h)
          · exact .inl ⟨⟨rfl, rfl⟩, .inr ⟨hall, rfl⟩⟩
          · exact .inr ⟨h, hall u h⟩
        · rintro (⟨h, (⟨b, hb, h3, h4⟩ | ⟨h3, h4⟩)⟩ | ⟨h, h3⟩)
          · exact absurd h3 (hall b hb)
          · exact .inl h4
          · exact .inr h
      · rename_i h2
        have hsm : same a t := by
          rcases ltT_three a t with h | h | h
          · exact absurd h h1
          · exact absurd h h2
          · exact h
        have hall : ∀ b ∈ S, ¬ same b t := fun b hb h => ltT_not_same (hs.1 b hb) (same_trans hsm (same_symm h))
        rw [List.mem_cons]
        constructor
        · rintro (rfl | h)
          · exact .inl ⟨⟨rfl, rfl⟩, .inl ⟨a, by simp, hsm, rfl⟩⟩
          · exact .inr ⟨List.mem_cons_of_mem _ h, hall u h⟩
        · rintro (⟨h, (⟨b, hb, h3, h4⟩ | ⟨h3, h4⟩)⟩ | ⟨h, h3⟩)
          · rcases List.mem_cons.1 hb with rfl | hb
            · exact .inl h4
            · exact absurd h3 (hall b hb)
          · exact absurd hsm (h3 a (by simp))
          · rcases List.mem_cons.1 h with rfl | h
            · exact absurd hsm h3
            · exact .inr h
theorem putT_sorted {t : Trm} : ∀ {S : List Trm}, Sorted S → Sorted (putT t S)
  | [], _ => by simp [putT, Sorted]
  | a :: S, hs => by
    have hs' := hs
    rw [Sorted, List.pairwise_cons] at hs
    rw [putT]
    split
    · rename_i h1
      rw [Sorted, List.pairwise_cons]
      refine ⟨fun b hb => ?_, putT_sorted hs.2⟩
      rcases (putT_mem hs.2 b).1 hb with h | h
      · exact ltT_same_r h1 (same_symm h.1)
      · exact hs.1 b h.1
    · rename_i h1
      split
      · rename_i h2
        rw [Sorted, List.pairwise_cons]
        refine ⟨fun b hb => ?_, hs'⟩
        rcases List.mem_cons.1 hb with rfl | hb
        · exact h2
        · exact ltT_trans h2 (hs.1 b hb)
      · rename_i h2
        have hsm : same a t := by
          rcases ltT_three a t with h | h | h
          · exact absurd h h1
          · exact absurd h h2
          · exact h
        rw [Sorted, List.pairwise_cons]
        exact ⟨fun b hb => ltT_same_l (b := a) ⟨hsm.1.symm, hsm.2.symm⟩ (hs.1 b hb), hs.2⟩
theorem trm_ext {a b : Trm} (h : same a b) (k : a.2.2 = b.2.2) : a = b := Prod.ext h.1 (Prod.ext h.2 k)
theorem rep_exists {l S : List Trm} (h : Rep l S) : ∀ v ∈ l, ∃ a ∈ S, same a v := by
  -- the least one of those with v's exponents
  have key : ∀ (m : List Trm), (∀ x ∈ m, x ∈ l) → ∀ v ∈ m, ∃ a ∈ m, same a v ∧ ∀ u ∈ m, same u v → a.2.2 ≤ u.2.2 := by
    intro m
    induction m with
    | nil => intro _ v hv; cases hv
    | cons b m ih =>
      intro hm v hv
      by_cases hbv : same b v
      · by_cases hex : ∃ u ∈ m, same u v
        · obtain ⟨u, hu, huv⟩ := hex
          obtain ⟨a, ha, hau, hmin⟩ := ih (fun x hx => hm x (List.mem_cons_of_mem _ hx)) u hu
          by_cases hle : a.2.2 ≤ b.2.2
          · refine ⟨a, List.mem_cons_of_mem _ ha, same_trans hau huv, fun x hx hxv => ?_⟩
            rcases List.mem_cons.1 hx with rfl | hx
            · exact hle
            · exact hmin x hx (same_trans hxv (same_symm huv))
          · refine ⟨b, by simp, hbv, fun x hx hxv => ?_⟩
            rcases List.mem_cons.1 hx with rfl | hx
            · exact Int.le_refl _
            · have := hmin x hx (same_trans hxv (same_symm huv))
              omega
        · refine ⟨b, by simp, hbv, fun x hx hxv => ?_⟩
          rcases List.mem_cons.1 hx with rfl | hx
          · exact Int.le_refl _
          · exact absurd ⟨x, hx, hxv⟩ hex
      · have hvm : v ∈ m := by
          rcases List.mem_cons.1 hv with rfl | hv
          · exact absurd ⟨rfl, rfl⟩ hbv
          · exact hv
        obtain ⟨a, ha, hav, hmin⟩ := ih (fun x hx => hm x (List.mem_cons_of_mem _ hx)) v hvm
        refine ⟨a, List.mem_cons_of_mem _ ha, hav, fun x hx hxv => ?_⟩
        rcases List.mem_cons.1 hx with rfl | hx
        · exact absurd hxv hbv
        · exact hmin x hx hxv
  intro v hv
  obtain ⟨a, ha, hav, hmin⟩ := key l (fun _ h => h) v hv
  exact ⟨a, (h.2 a).2 ⟨ha, fun u hu hua => hmin u hu (same_trans hua hav)⟩, hav⟩
theorem rep_put {l S : List Trm} (h : Rep l S) (t : Trm) : Rep (l ++ [t]) (putT t S) := by
  refine ⟨putT_sorted h.1, fun u => ?_⟩
  rw [putT_mem h.1 u]
  have hmem : ∀ v, v ∈ l ++ [t] ↔ v ∈ l ∨ v = t := by simp
  constructor
  · rintro (⟨hut, (⟨a, ha, hat, rfl⟩ | ⟨hno, rfl⟩)⟩ | ⟨hu, hut⟩)
    · obtain ⟨hal, hamin⟩ := (h.2 a).1 ha
      refine ⟨(hmem _).2 ?_, fun v hv hvu => ?_⟩
      · by_cases hc : t.2.2 ≤ a.2.2
        · right; exact trm_ext ⟨rfl, rfl⟩ (by simp; omega)
        · left
          have : ((t.1, t.2.1, min t.2.2 a.2.2) : Trm) = a := trm_ext (same_symm hat) (by simp; omega)
          rw [this]; exact hal
      · rcases (hmem v).1 hv with hv | rfl
        · have := hamin v hv (same_trans hvu (same_symm hat))
          simp; omega
        · simp; omega
    · refine ⟨by simp, fun v hv hvu => ?_⟩
      rcases (hmem v).1 hv with hv | rfl
      · obtain ⟨a, ha, hav⟩ := rep_exists h v hv
        exact absurd (same_trans hav hvu) (hno a ha)
      · exact Int.le_refl _
    · obtain ⟨hul, humin⟩ := (h.2 u).1 hu
      refine ⟨(hmem _).2 (.inl hul), fun v hv hvu => ?_⟩
      rcases (hmem v).1 hv with hv | rfl
      · exact humin v hv hvu
      · exact absurd (same_symm hvu) hut
  · rintro ⟨hu, hmin⟩
    by_cases hut : same u t
    · left
      refine ⟨hut, ?_⟩
      have h1 := hmin t (by simp) (same_symm hut)
      by_cases hex : ∃ a ∈ S, same a t
      · obtain ⟨a, ha, hat⟩ := hex
        obtain ⟨hal, hamin⟩ := (h.2 a).1 ha
        refine .inl ⟨a, ha, hat, trm_ext hut ?_⟩
        have h2 := hmin a ((hmem a).2 (.inl hal)) (same_trans hat (same_symm hut))
        rcases (hmem u).1 hu with hul | rfl
        · have h3 := hamin u hul (same_trans hut (same_symm hat))
          simp; omega
        · simp; omega
      · refine .inr ⟨fun a ha hat => hex ⟨a, ha, hat⟩, ?_⟩
        rcases (hmem u).1 hu with hul | rfl
        · obtain ⟨a, ha, hau⟩ := rep_exists h u hul
          exact absurd ⟨a, ha, same_trans hau hut⟩ hex
        · rfl
    · right
      refine ⟨(h.2 u).2 ⟨?_, fun v hv hvu => hmin v ((hmem v).2 (.inl hv)) hvu⟩, hut⟩
      rcases (hmem u).1 hu with hul | rfl
      · exact hul
      · exact absurd ⟨rfl, rfl⟩ hut
theorem rep_nil : Rep [] [] := ⟨List.Pairwise.nil, fun u => by simp⟩
def putAll (S l : List Trm) : List Trm := l.foldl (fun S t => putT t S) S
theorem rep_putAll {m S : List Trm} (h : Rep m S) : ∀ l : List Trm, Rep (m ++ l) (putAll S l) := by
  intro l
  induction l generalizing m S with
  | nil => simpa [putAll] using h
  | cons t l ih =>
    have := ih (rep_put h t)
    rwa [List.append_assoc] at this
theorem rep_self {S : List Trm} (h : Sorted S) : Rep S S := by
  refine ⟨h, fun u => ⟨fun hu => ⟨hu, fun v hv hvu => ?_⟩, fun hu => hu.1⟩⟩
  by_cases e : v = u
  · rw [e]; exact Int.le_refl _
  · exfalso
    have hp : ∀ {S : List Trm}, Sorted S → ∀ a ∈ S, ∀ b ∈ S, a ≠ b → ltT a b = true ∨ ltT b a = true := by
      intro S
      induction S with
      | nil => intro _ a ha; cases ha
      | cons c S ih =>
        intro hs a ha b hb hne
        rw [Sorted, List.pairwise_cons] at hs
        rcases List.mem_cons.1 ha with h1 | h1
        · rcases List.mem_cons.1 hb with h2 | h2
          · exact absurd (h1.trans h2.symm) hne
          · rw [h1]; exact .inl (hs.1 b h2)
        · rcases List.mem_cons.1 hb with h2 | h2
          · rw [h2]; exact .inr (hs.1 a h1)
          · exact ih hs.2 a h1 b h2 hne
    rcases hp h v hv u hu e with h1 | h1
    · exact ltT_not_same h1 hvu
    · exact ltT_not_same h1 (same_symm hvu)
/- Sorting and keeping the first -/
def lt3 (a b : Trm) : Bool := ltT a b || (decide (same a b) && decide (a.2.2 < b.2.2))
def compR (p : Trm) : List Trm → List Trm
  | [] => []
  | b :: l => if same p b then compR b l else b :: compR b l
def compT : List Trm → List Trm
  | [] => []
  | a :: l => a :: compR a l
abbrev Sorted3 (M : List Trm) : Prop := M.Pairwise fun a b => lt3 b a = false
theorem lt3_no {a b : Trm} (h : lt3 b a = false) : ltT a b = true ∨ same a b ∧ a.2.2 ≤ b.2.2 := by
  rw [lt3, Bool.or_eq_false_iff] at h
  rcases ltT_three a b with h1 | h1 | h1
  · exact .inl h1
  · rw [h1] at h; cases h.1
  · refine .inr ⟨h1, ?_⟩
    have := h.2
    simp [same_symm h1] at this
    exact this
theorem compR_mem {p : Trm} : ∀ {l : List Trm}, Sorted3 (p :: l) → ∀ u, u ∈ compR p l ↔ u ∈ l ∧ ¬ same u p ∧ ∀ v ∈ l, same v u → u.2.2 ≤ v.2.2
  | [], _, u => by simp [compR]
  | b :: l, hs, u => by
    have hs' := (List.pairwise_cons.1 hs)
    have hsb := List.pairwise_cons.1 hs'.2
    rw [compR]
    split
    · rename_i hpb
      rw [compR_mem hs'.2 u]
      constructor
      · rintro ⟨h1, h2, h3⟩
        refine ⟨List.mem_cons_of_mem _ h1, fun h => h2 (same_trans h hpb), fun v hv hvu => ?_⟩
        rcases List.mem_cons.1 hv with rfl | hv
        · exact absurd (same_symm hvu) h2
        · exact h3 v hv hvu
      · rintro ⟨h1, h2, h3⟩
        rcases List.mem_cons.1 h1 with rfl | h1
        · exact absurd (same_symm hpb) h2
        · exact ⟨h1, fun h => h2 (same_trans h (same_symm hpb)), fun v hv hvu => h3 v (List.mem_cons_of_mem _ hv) hvu⟩
    · rename_i hpb
      have hlt : ltT p b = true := by
        rcases lt3_no (hs'.1 b (by simp)) with h | h
        · exact h
        · exact absurd h.1 hpb
      rw [List.mem_cons, compR_mem hs'.2 u]
      constructor
      · rintro (rfl | ⟨h1, h2, h3⟩)
        · refine ⟨by simp, fun h => hpb (same_symm h), fun v hv hvu => ?_⟩
          rcases List.mem_cons.1 hv with rfl | hv
          · exact Int.le_refl _
          · rcases lt3_no (hsb.1 v hv) with h | h
            · exact absurd (same_symm hvu) (ltT_not_same h)
            · exact h.2
        · refine ⟨List.mem_cons_of_mem _ h1, fun h => ?_, fun v hv hvu => ?_⟩
          · rcases lt3_no (hsb.1 u h1) with h4 | h4
            · exact ltT_not_same (ltT_trans hlt h4) (same_symm h)
            · exact h2 (same_symm h4.1)
          · rcases List.mem_cons.1 hv with rfl | hv
            · exact absurd (same_symm hvu) h2
            · exact h3 v hv hvu
      · rintro ⟨h1, h2, h3⟩
        rcases List.mem_cons.1 h1 with rfl | h1
        · exact .inl rfl
        · by_cases hub : same u b
          · left
            refine trm_ext hub ?_
            have h4 := h3 b (by simp) (same_symm hub)
            rcases lt3_no (hsb.1 u h1) with h5 | h5
            · exact absurd (same_symm hub) (ltT_not_same h5)
            · omega
          · exact .inr ⟨h1, hub, fun v hv hvu => h3 v (List.mem_cons_of_mem _ hv) hvu⟩
theorem compR_sorted {p : Trm} : ∀ {l : List Trm}, Sorted3 (p :: l) → Sorted (p :: compR p l)
  | [], _ => by simp [compR, Sorted]
  | b :: l, hs => by
    have hs' := (List.pairwise_cons.1 hs)
    have hmem := compR_mem hs
    rw [Sorted, List.pairwise_cons]
    refine ⟨fun u hu => ?_, ?_⟩
    · obtain ⟨h1, h2, _⟩ := (hmem u).1 hu
      rcases lt3_no (hs'.1 u h1) with h | h
      · exact h
      · exact absurd (same_symm h.1) h2
    · have := compR_sorted hs'.2
      rw [compR]
      split
      · exact (List.pairwise_cons.1 this).2
      · exact this
theorem rep_comp : ∀ {M : List Trm}, Sorted3 M → Rep M (compT M)
  | [], _ => rep_nil
  | a :: l, hs => by
    have hs' := List.pairwise_cons.1 hs
    refine ⟨compR_sorted hs, fun u => ?_⟩
    rw [compT, List.mem_cons, compR_mem hs u]
    constructor
    · rintro (rfl | ⟨h1, h2, h3⟩)
      · refine ⟨by simp, fun v hv hvu => ?_⟩
        rcases List.mem_cons.1 hv with rfl | hv
        · exact Int.le_refl _
        · rcases lt3_no (hs'.1 v hv) with h | h
          · exact absurd (same_symm hvu) (ltT_not_same h)
          · exact h.2
      · refine ⟨List.mem_cons_of_mem _ h1, fun v hv hvu => ?_⟩
        rcases List.mem_cons.1 hv with rfl | hv
        · exact absurd (same_symm hvu) h2
        · exact h3 v hv hvu
    · rintro ⟨h1, h2⟩
      rcases List.mem_cons.1 h1 with rfl | h1
      · exact .inl rfl
      · by_cases hua : same u a
        · left
          refine trm_ext hua ?_
          have h3 := h2 a (by simp) (same_symm hua)
          rcases lt3_no (hs'.1 u h1) with h4 | h4
          · exact absurd (same_symm hua) (ltT_not_same h4)
          · omega
        · exact .inr ⟨h1, hua, fun v hv hvu => h2 v (List.mem_cons_of_mem _ hv) hvu⟩
/-- Both ways come to one list. -/
theorem gath_eq {M l S m : List Trm} (hs : Sorted3 M) (hp : M.Perm (m ++ l)) (h : Rep m S) : compT M = putAll S l :=
  rep_uniq (rep_comp hs) (rep_putAll h l) fun _ => hp.mem_iff
end Go.Proofs.Ytfamemjlhgkneaa
