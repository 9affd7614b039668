/- The library's sort of points, by their coordinates. -/
import Derived.Test.YtfkglbmdpefigaaGreatDoorSortW
import Derived.Test.YtfkglbmdpefigaaGreatDoorSort
import Derived.Test.YtfkglbmdpefigaaGreatDoorWPnt
namespace Go.Proofs.YtfkglbmdpefigaaGreatDoor
open Go.RowKit Go.Shelf Go.Sort
abbrev BP := {t : Pnt // bdP t}
instance : Inhabited BP := ⟨⟨(0, 0), by simp [bdP]⟩⟩
def encP (x : BP) : List Value := [.int .i64 x.1.1, .int .i64 x.1.2]
/-- What the program's comparison answers. -/
def cmpP (a b : Pnt) : Int := if a.1 = b.1 then a.2 - b.2 else a.1 - b.1
theorem cmpP_lt (a b : Pnt) : cmpP a b < 0 ↔ ltP a b := by
  unfold cmpP ltP Pos sub2
  split <;> omega
theorem comparePoints_x (a0 a1 b0 b1 : Int) (w : World) (h1 : bdP (a0, a1)) (h2 : bdP (b0, b1)) :
    Calls Tryz.prog 46 #[.agg #[.int .i64 a0, .int .i64 a1], .agg #[.int .i64 b0, .int .i64 b1]] w fun e w' => e = .returned (.int .i64 (cmpP (a0, a1) (b0, b1))) ∧ ∃ q os', w' = grow (w.drewN q) os' := by
  obtain ⟨⟨a2, a3⟩, a4, a5⟩ := h1
  obtain ⟨⟨b2, b3⟩, b4, b5⟩ := h2
  dsimp only at *
  by_cases h : a0 = b0
  · have H : Hid (cmpP (a0, a1) (b0, b1) = a1 - b1) := Lib.hid (by rw [cmpP, if_pos h])
    subst h
    go_enter Tryz.func46, Tryz.ntmps46
    go_wp2
    go_ret
    exact ⟨retI H.out.symm, 0, _, by rw [alloc_eq_grow, alloc_eq_grow, grow_grow]; rfl⟩
  · have H : Hid (cmpP (a0, a1) (b0, b1) = a0 - b0) := Lib.hid (by rw [cmpP, if_neg h])
    go_enter Tryz.func46, Tryz.ntmps46
    go_wp2
    go_ret
    exact ⟨retI H.out.symm, 0, _, by rw [alloc_eq_grow, alloc_eq_grow, grow_grow]; rfl⟩
def cfP (x y : BP) : Int := cmpP x.1 y.1
theorem ltOf_cfP (x y : BP) : ltOf cfP x y = decide (ltP x.1 y.1) := by
  unfold ltOf cfP
  rw [Bool.eq_iff_iff, decide_eq_true_eq, decide_eq_true_eq]
  exact cmpP_lt _ _
theorem ltP_iff (a b : Pnt) : ltP a b ↔ a.1 < b.1 ∨ a.1 = b.1 ∧ a.2 < b.2 := by unfold ltP Pos sub2; dsimp only; omega
theorem swoP : SWO (ltOf cfP) where
  irrefl x := by rw [ltOf_cfP, decide_eq_false_iff_not]; exact ltP_irrefl _
  trans x y z h1 h2 := by rw [ltOf_cfP, decide_eq_true_eq] at *; exact ltP_trans h1 h2
  ntrans x y z h1 h2 := by rw [ltOf_cfP, decide_eq_false_iff_not, ltP_iff] at *; omega
theorem flat_encP (l : List BP) : ∀ t, t < l.length * 2 → (flatK encP 2 l.toArray)[t]! = .int .i64 ((flatP (l.map (·.1))).getD t 0) := by
  intro t ht
  rw [get_flatK _ _ _ _ (by simpa using ht)]
  have hq : t / 2 < l.length := by omega
  have hat := flatP_at (l.map (·.1)) (t / 2) (by simpa using hq)
  have hg : (l.map (·.1)).getD (t / 2) (0, 0) = (l[t / 2]'hq).1 := by simp [List.getD, List.getElem?_eq_getElem hq]
  rw [hg] at hat
  have hd : l.toArray[t / 2]! = l[t / 2]'hq := by simp [hq]
  rw [hd]
  rcases (show t % 2 = 0 ∨ t % 2 = 1 by omega) with h | h
  · rw [h, show (flatP (l.map (·.1))).getD t 0 = (flatP (l.map (·.1))).getD (t / 2 * 2) 0 from by rw [show t / 2 * 2 = t from by omega], hat.1]; rfl
  · rw [h, show (flatP (l.map (·.1))).getD t 0 = (flatP (l.map (·.1))).getD (t / 2 * 2 + 1) 0 from by rw [show t / 2 * 2 + 1 = t from by omega], hat.2]; rfl
/-- The row holds its points in order. -/
def SortedR (E : TypeId) (B g n c : Nat) (l : List Pnt) (w : World) (e : Ending) (w' : World) : Prop :=
  e = .returned (.tuple #[]) ∧ ∃ M : List Pnt, M.Perm l ∧ M.Pairwise (fun a b => ¬ ltP b a) ∧ OwnP w' B E (.slice (some ⟨g, 0, none⟩) n c) n M ∧ w.grownBy w' (some g)
theorem sortP_c (g n c : Nat) (l : List Pnt) (B : Nat) (w : World) (h : OwnP w B 32 (.slice (some ⟨g, 0, none⟩) n c) n l) (hb : ∀ t ∈ l, bdP t) (hn : n ≤ 3000000000) :
    Calls Tryz.prog 45 #[.slice (some ⟨g, 0, none⟩) n c, .func (.func 46) #[] #[]] w (SortedR 32 B g n c l w) := by
  have hl := h.len
  obtain ⟨L, hL⟩ : ∃ L : List BP, L.map (·.1) = l := by
    refine ⟨l.pmap (fun t ht => (⟨t, ht⟩ : BP)) hb, ?_⟩
    rw [List.map_pmap]
    exact (List.pmap_eq_map _).trans (List.map_id _)
  have hLn : L.length = n := by rw [← hl, ← hL, List.length_map]
  have hsz : L.toArray.size = n := by simpa using hLn
  have eg : ∀ args w, (callFunc 46 args).run Tryz.prog w = .ok (.enter 46 args) w := enters_of Tryz.func46 (by kernel_rfl) rfl
  have hcmp : CmpLays Tryz.prog 46 #[] encP 2 cfP g 0 L.toArray.size w := fun m os dk _ x y => by
    exact comparePoints_x x.1.1 x.1.2 y.1.1 y.1.2 _ x.2 y.2
  have hH : HoldsK encP 2 w g 0 L.toArray := holds_own (zs := flatP l) h L.toArray hsz (fun t ht => by rw [← hL]; exact flat_encP L t (by rw [hLn]; exact ht))
  have hcon := AnyQ.slices_SortFunc Tryz.sortPnt 2 Tryz.isAgg32 Tryz.sizeOf32 encP (fun _ => rfl) (fun x v hv => by simp [encP] at hv; rcases hv with rfl | rfl <;> rfl) cfP swoP 46 #[] g 0 c L.toArray w eg hcmp hH h.there.1 (by rw [hsz]; omega)
  rw [hsz] at hcon
  refine Calls.mono (show Calls Tryz.prog 45 _ _ _ from hcon) ?_
  rintro e w' ⟨rfl, d', m, os, hp, hs, rfl⟩
  have hd' : d'.size = n := by rw [hp.1]; exact hsz
  have hp' : d'.toList.Perm L := by
    have := perm_toList (d := L.toArray) (d' := d') (by rw [hsz]; exact hp)
    simpa using this
  have hs' := sorted_toList hd' hs
  have hM : (d'.toList.map (fun x : BP => x.1)).Perm l := by rw [← hL]; exact hp'.map _
  obtain ⟨h1, h2⟩ := own_sortWorld (enc := encP) (ys := flatP (d'.toList.map (fun x : BP => x.1))) (m := m) (os := os) h d' hd' (by rw [flatP_len, List.length_map, Array.length_toList, hd']) (fun t ht => by
    have := flat_encP d'.toList t (by rw [Array.length_toList, hd']; exact ht)
    simpa using this)
  refine ⟨rfl, d'.toList.map (fun x : BP => x.1), hM, ?_, h1, h2⟩
  rw [List.pairwise_map]
  exact hs'.imp fun {a b} hab => by rw [ltOf_cfP, decide_eq_false_iff_not] at hab; exact hab
end Go.Proofs.YtfkglbmdpefigaaGreatDoor
