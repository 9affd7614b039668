/- The library's sort of terms, by exponents and coefficient. -/
import Derived.Test.YtfamemjlhgkneaaSortW
import Derived.Test.YtfamemjlhgkneaaSort
import Derived.Test.YtfamemjlhgkneaaWPut
namespace Go.Proofs.Ytfamemjlhgkneaa
open Go.RowKit Go.Shelf Go.Sort
def okT (t : Trm) : Prop := (-1000000 ≤ t.1 ∧ t.1 ≤ 1000000) ∧ (-1000000 ≤ t.2.1 ∧ t.2.1 ≤ 1000000) ∧ -100000000 ≤ t.2.2 ∧ t.2.2 ≤ 100000000
abbrev BT := {t : Trm // okT t}
instance : Inhabited BT := ⟨⟨(0, 0, 0), by simp [okT]⟩⟩
def encB (x : BT) : List Value := [.int .i64 x.1.1, .int .i64 x.1.2.1, .int .i64 x.1.2.2]
def cmp3 (a b : Trm) : Int := if cmpT a b = 0 then a.2.2 - b.2.2 else cmpT a b
theorem cmp3_lt (a b : Trm) : decide (cmp3 a b < 0) = lt3 a b := by
  rw [Bool.eq_iff_iff, decide_eq_true_eq, lt3, Bool.or_eq_true, Bool.and_eq_true, decide_eq_true_eq, decide_eq_true_eq, ltT_iff, ← same_cmp]
  unfold cmp3
  split
  · rename_i h
    rw [same_cmp] at h
    unfold same at h
    constructor
    · intro h2
      exact .inr ⟨by rw [same_cmp]; exact h, by omega⟩
    · rintro (h2 | h2) <;> omega
  · rename_i h
    unfold cmpT at h ⊢
    split
    · rename_i h1
      rw [if_pos h1] at h
      constructor
      · intro h2; exact .inl (.inr ⟨h1, by omega⟩)
      · rintro ((h2 | h2) | h2) <;> omega
    · rename_i h1
      rw [if_neg h1] at h
      constructor
      · intro h2; exact .inl (.inl (by omega))
      · rintro ((h2 | h2) | h2) <;> omega
def cfB (x y : BT) : Int := cmp3 x.1 y.1
theorem ltOf_cfB (x y : BT) : ltOf cfB x y = lt3 x.1 y.1 := cmp3_lt x.1 y.1
theorem lt3_iff (a b : Trm) : lt3 a b = true ↔ (a.1 < b.1 ∨ a.1 = b.1 ∧ a.2.1 < b.2.1) ∨ (a.1 = b.1 ∧ a.2.1 = b.2.1) ∧ a.2.2 < b.2.2 := by
  rw [lt3, Bool.or_eq_true, Bool.and_eq_true, decide_eq_true_eq, decide_eq_true_eq, ltT_iff]
  rfl
theorem lt3_false (a b : Trm) : lt3 a b = false ↔ ¬ ((a.1 < b.1 ∨ a.1 = b.1 ∧ a.2.1 < b.2.1) ∨ (a.1 = b.1 ∧ a.2.1 = b.2.1) ∧ a.2.2 < b.2.2) := by
  rw [← lt3_iff]; simp
theorem swoB : SWO (ltOf cfB) where
  irrefl x := by rw [ltOf_cfB, lt3_false]; omega
  trans x y z h1 h2 := by rw [ltOf_cfB, lt3_iff] at *; omega
  ntrans x y z h1 h2 := by rw [ltOf_cfB, lt3_false] at *; omega
theorem compareTerms_x (a0 a1 a2 b0 b1 b2 : Int) (w : World) (h0 : -1000000 ≤ a0 ∧ a0 ≤ 1000000) (h1 : -1000000 ≤ a1 ∧ a1 ≤ 1000000) (h2 : -1000000 ≤ b0 ∧ b0 ≤ 1000000) (h3 : -1000000 ≤ b1 ∧ b1 ≤ 1000000) :
    Calls Try.prog 78 #[.agg #[.int .i64 a0, .int .i64 a1, .int .i64 a2], .agg #[.int .i64 b0, .int .i64 b1, .int .i64 b2]] w fun e w' => e = .returned (.int .i64 (cmpT (a0, a1, a2) (b0, b1, b2))) ∧ (w.alloc (.cells #[.int .i64 a0, .int .i64 a1, .int .i64 a2] 54)).alloc (.cells #[.int .i64 b0, .int .i64 b1, .int .i64 b2] 54) = w' := by
  by_cases h : a0 = b0
  · have H : Hid (cmpT (a0, a1, a2) (b0, b1, b2) = a1 - b1) := Lib.hid (by rw [cmpT, if_pos h])
    subst h
    go_enter Try.func78, Try.ntmps78
    go_wp2
    go_ret
    exact ⟨retI H.out.symm, rfl⟩
  · have H : Hid (cmpT (a0, a1, a2) (b0, b1, b2) = a0 - b0) := Lib.hid (by rw [cmpT, if_neg h])
    go_enter Try.func78, Try.ntmps78
    go_wp2
    go_ret
    exact ⟨retI H.out.symm, rfl⟩
theorem gath1_c (a0 a1 a2 b0 b1 b2 : Int) (w : World) (h0 : -1000000 ≤ a0 ∧ a0 ≤ 1000000) (h1 : -1000000 ≤ a1 ∧ a1 ≤ 1000000) (h2 : -1000000 ≤ b0 ∧ b0 ≤ 1000000) (h3 : -1000000 ≤ b1 ∧ b1 ≤ 1000000) (h4 : -100000000 ≤ a2 ∧ a2 ≤ 100000000) (h5 : -100000000 ≤ b2 ∧ b2 ≤ 100000000) :
    Calls Try.prog 83 #[.agg #[.int .i64 a0, .int .i64 a1, .int .i64 a2], .agg #[.int .i64 b0, .int .i64 b1, .int .i64 b2]] w fun e w' => e = .returned (.int .i64 (cmp3 (a0, a1, a2) (b0, b1, b2))) ∧ ∃ q os', w' = grow (w.drewN q) os' := by
  by_cases h : cmpT (a0, a1, a2) (b0, b1, b2) = 0
  · have H : Hid (cmp3 (a0, a1, a2) (b0, b1, b2) = a2 - b2) := Lib.hid (by rw [cmp3, if_pos h])
    have HZ := Lib.hid h
    clear h
    go_enter Try.func83, Try.ntmps83
    go_wp2_with fail
    refine (compareTerms_x _ _ _ _ _ _ _ h0 h1 h2 h3).mono ?_; rw [HZ.out]; rintro e w' ⟨rfl, rfl⟩
    go_wp2_with fail
    go_ret
    exact ⟨retI H.out.symm, 0, _, by rw [alloc_eq_grow, alloc_eq_grow, alloc_eq_grow, alloc_eq_grow, grow_grow, grow_grow, grow_grow]; rfl⟩
  · have H : Hid (cmp3 (a0, a1, a2) (b0, b1, b2) = cmpT (a0, a1, a2) (b0, b1, b2)) := Lib.hid (by rw [cmp3, if_neg h])
    have hz : (cmpT (a0, a1, a2) (b0, b1, b2) != 0) = true := by simpa using h
    go_enter Try.func83, Try.ntmps83
    go_wp2_with fail
    refine (compareTerms_x _ _ _ _ _ _ _ h0 h1 h2 h3).mono ?_; rintro e w' ⟨rfl, rfl⟩
    go_wp2_with fail
    go_ret
    exact ⟨retI H.out.symm, 0, _, by rw [alloc_eq_grow, alloc_eq_grow, alloc_eq_grow, alloc_eq_grow, grow_grow, grow_grow, grow_grow]; rfl⟩
theorem flat_encB (l : List BT) : ∀ t, t < l.length * 3 → (flatK encB 3 l.toArray)[t]! = .int .i64 ((flatT (l.map (·.1))).getD t 0) := by
  intro t ht
  rw [get_flatK _ _ _ _ (by simpa using ht)]
  have hq : t / 3 < l.length := by omega
  have hat := flatT_at (l.map (·.1)) (t / 3) (by simpa using hq)
  have hg : (l.map (·.1)).getD (t / 3) (0, 0, 0) = (l[t / 3]'hq).1 := by simp [List.getD, List.getElem?_eq_getElem hq]
  rw [hg] at hat
  have hd : l.toArray[t / 3]! = l[t / 3]'hq := by simp [hq]
  rw [hd]
  rcases (show t % 3 = 0 ∨ t % 3 = 1 ∨ t % 3 = 2 by omega) with h | h | h
  · rw [h, show (flatT (l.map (·.1))).getD t 0 = (flatT (l.map (·.1))).getD (t / 3 * 3) 0 from by rw [show t / 3 * 3 = t from by omega], hat.1]; rfl
  · rw [h, show (flatT (l.map (·.1))).getD t 0 = (flatT (l.map (·.1))).getD (t / 3 * 3 + 1) 0 from by rw [show t / 3 * 3 + 1 = t from by omega], hat.2.1]; rfl
  · rw [h, show (flatT (l.map (·.1))).getD t 0 = (flatT (l.map (·.1))).getD (t / 3 * 3 + 2) 0 from by rw [show t / 3 * 3 + 2 = t from by omega], hat.2.2]; rfl
/-- The row holds its terms in order. -/
def SortedT (E : TypeId) (B g n c : Nat) (l : List Trm) (w : World) (e : Ending) (w' : World) : Prop :=
  e = .returned (.tuple #[]) ∧ ∃ M : List Trm, M.Perm l ∧ Sorted3 M ∧ OwnT w' B E (.slice (some ⟨g, 0, none⟩) n c) n M ∧ w.grownBy w' (some g)
theorem sortT_c (g n c : Nat) (l : List Trm) (B : Nat) (w : World) (h : OwnT w B 54 (.slice (some ⟨g, 0, none⟩) n c) n l) (hb : ∀ t ∈ l, okT t) (hn : n ≤ 3000000000) :
    Calls Try.prog 82 #[.slice (some ⟨g, 0, none⟩) n c, .func (.func 83) #[] #[]] w (SortedT 54 B g n c l w) := by
  have hl := h.len
  obtain ⟨L, hL⟩ : ∃ L : List BT, L.map (·.1) = l := by
    refine ⟨l.pmap (fun t ht => (⟨t, ht⟩ : BT)) hb, ?_⟩
    rw [List.map_pmap]
    exact (List.pmap_eq_map _).trans (List.map_id _)
  have hLn : L.length = n := by rw [← hl, ← hL, List.length_map]
  have hsz : L.toArray.size = n := by simpa using hLn
  have eg : ∀ args w, (callFunc 83 args).run Try.prog w = .ok (.enter 83 args) w := enters_of Try.func83 (by kernel_rfl) rfl
  have hcmp : CmpLays Try.prog 83 #[] encB 3 cfB g 0 L.toArray.size w := fun m os dk _ x y => by
    obtain ⟨hx0, hx1, hx2⟩ := x.2
    obtain ⟨hy0, hy1, hy2⟩ := y.2
    exact gath1_c x.1.1 x.1.2.1 x.1.2.2 y.1.1 y.1.2.1 y.1.2.2 _ hx0 hx1 hy0 hy1 hx2 hy2
  have hH : HoldsK encB 3 w g 0 L.toArray := holds_own (zs := flatT l) h L.toArray hsz (fun t ht => by rw [← hL]; exact flat_encB L t (by rw [hLn]; exact ht))
  have hcon := AnyQ.slices_SortFunc Try.sortTrm 3 Try.isAgg54 Try.sizeOf54 encB (fun _ => rfl) (fun x v hv => by simp [encB] at hv; rcases hv with rfl | rfl | rfl <;> rfl) cfB swoB 83 #[] g 0 c L.toArray w eg hcmp hH h.there.1 (by rw [hsz]; omega)
  rw [hsz] at hcon
  refine Calls.mono (show Calls Try.prog 82 _ _ _ from hcon) ?_
  rintro e w' ⟨rfl, d', m, os, hp, hs, rfl⟩
  have hd' : d'.size = n := by rw [hp.1]; exact hsz
  have hp' : d'.toList.Perm L := by
    have := perm_toList (d := L.toArray) (d' := d') (by rw [hsz]; exact hp)
    simpa using this
  have hs' := sorted_toList hd' hs
  have hM : (d'.toList.map (fun x : BT => x.1)).Perm l := by rw [← hL]; exact hp'.map _
  obtain ⟨h1, h2⟩ := own_sortWorld (enc := encB) (ys := flatT (d'.toList.map (fun x : BT => x.1))) (m := m) (os := os) h d' hd' (by rw [flatT_len, List.length_map, Array.length_toList, hd']) (fun t ht => by
    have := flat_encB d'.toList t (by rw [Array.length_toList, hd']; exact ht)
    simpa using this)
  refine ⟨rfl, d'.toList.map (fun x : BT => x.1), hM, ?_, h1, h2⟩
  rw [Sorted3, List.pairwise_map]
  exact hs'.imp fun {a b} hab => by rw [← ltOf_cfB]; exact hab
end Go.Proofs.Ytfamemjlhgkneaa
