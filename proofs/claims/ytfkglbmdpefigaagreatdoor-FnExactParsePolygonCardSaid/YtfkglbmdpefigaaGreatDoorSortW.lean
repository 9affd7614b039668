/- The library's sort on a row of the call's own: what its premises and its world say of the row. No program is named here. -/
import Derived.Test.YtfkglbmdpefigaaGreatDoorWide
import Derived.Shelf.SlSortCmp.WholeK
namespace Go.Proofs.YtfkglbmdpefigaaGreatDoor
open Go.RowKit Go.Shelf Go.Sort
theorem holds_own {α : Type} [Inhabited α] {enc : α → List Value} {w : World} {B k n g c : Nat} {E : TypeId} {zs : List Int} (h : OwnF w B E k (.slice (some ⟨g, 0, none⟩) n c) n zs) (d : Array α) (hd : d.size = n)
    (hf : ∀ t, t < n * k → (flatK enc k d)[t]! = .int .i64 (zs.getD t 0)) : HoldsK enc k w g 0 d := by
  intro j hj
  rw [size_flatK, hd] at hj
  rw [Nat.zero_add, hf j hj]
  exact ⟨h.getAt j hj, h.frozenAt j⟩
theorem own_sortWorld {α : Type} [Inhabited α] {enc : α → List Value} {w : World} {B k n g c m : Nat} {E : TypeId} {zs ys : List Int} {os : Array Obj} (h : OwnF w B E k (.slice (some ⟨g, 0, none⟩) n c) n zs) (d : Array α) (hd : d.size = n)
    (hl : ys.length = n * k) (hf : ∀ t, t < n * k → (flatK enc k d)[t]! = .int .i64 (ys.getD t 0)) :
    OwnF (sortWorldK enc k w g 0 m d os) B E k (.slice (some ⟨g, 0, none⟩) n c) n ys ∧ w.grownBy (sortWorldK enc k w g 0 m d os) (some g) := by
  have hlt := h.there
  have hsz : (putRowK enc k (Sort.ahead w m) g 0 d).heap.size = w.heap.size := by simp [putRowK, putRow, mapBlock]
  constructor
  · rcases h.2 with ⟨hv, _⟩ | ⟨g', cap, cur, hv, hb, hg, hnc, hcm, hcs, _⟩
    · cases hv
    · cases hv
      refine ⟨by rw [List.length_map]; exact hl, .inr ⟨g, c, putCells id 0 (flatK enc k d) cur, rfl, hb, ?_, hnc, hcm, ?_, ?_⟩⟩
      · unfold sortWorldK
        rw [heap_grow_old _ _ (by rw [hsz]; exact hlt.1)]
        simp [putRowK, putRow, mapBlock, Array.getElem?_modify, hg, onCells]
      · simp [putCells, hcs]
      · have hnk : n * k ≤ c * k := Nat.mul_le_mul_right _ hnc
        apply List.ext_getElem?
        intro i
        rw [List.getElem?_take]
        by_cases hi : i < n * k
        · rw [if_pos hi, Array.getElem?_toList, List.getElem?_map]
          have h1 : i < cur.size := by rw [hcs]; omega
          have h2 := hf i hi
          have h3 : i < ys.length := by rw [hl]; exact hi
          simp only [putCells, Array.getElem?_mapIdx, size_flatK, hd, Array.getElem?_eq_getElem h1, Option.map_some]
          rw [if_pos ⟨Nat.zero_le _, by omega⟩, Nat.sub_zero, h2]
          simp [List.getD, List.getElem?_eq_getElem h3]
        · rw [if_neg hi, List.getElem?_map, List.getElem?_eq_none (by omega)]
          rfl
  · refine ⟨rfl, rfl, rfl, by simp [sortWorldK, hsz], fun j hj hne => ?_⟩
    unfold sortWorldK
    rw [heap_grow_old _ _ (by rw [hsz]; exact hj)]
    have hgj : g ≠ j := fun e => hne (by rw [e])
    simp [putRowK, putRow, mapBlock, Array.getElem?_modify, hgj]
theorem perm_toList {α : Type} [Inhabited α] {d d' : Array α} (h : PermIn 0 d.size d d') : d'.toList.Perm d.toList := by
  have h3 := h.2.2
  rw [Array.extract_eq_self_of_le (by rw [h.1]; exact Nat.le_refl _), Array.extract_eq_self_of_le (Nat.le_refl _)] at h3
  exact h3
theorem sorted_toList {α : Type} [Inhabited α] {lt : α → α → Bool} {d : Array α} {n : Nat} (hn : d.size = n) (h : SortedIn lt 0 n d) : d.toList.Pairwise fun a b => lt b a = false := by
  rw [List.pairwise_iff_getElem]
  intro i j hi hj hij
  have := h i j (Nat.zero_le _) hij (by rw [← hn]; simpa using hj)
  rw [getElem!_pos d j (by simpa using hj), getElem!_pos d i (by simpa using hi)] at this
  exact this
end Go.Proofs.YtfkglbmdpefigaaGreatDoor
