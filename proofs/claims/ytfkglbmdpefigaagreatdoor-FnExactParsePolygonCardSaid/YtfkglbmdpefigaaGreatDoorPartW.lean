/- Words shared by the readers of lists: cells held, parts of a text, rows by draws. -/
import Derived.Test.YtfkglbmdpefigaaGreatDoorWPart
import Derived.Test.YtfkglbmdpefigaaGreatDoorBsEq
import Derived.Test.YtfkglbmdpefigaaGreatDoorApp2
namespace Go.Proofs.YtfkglbmdpefigaaGreatDoor
open Go.RowKit
theorem OwnF.drewK {w : World} {B k n : Nat} {E : TypeId} {v : Value} {zs : List Int} (h : OwnF w B E k v n zs) : OwnF w.drew B E k v n zs := h
theorem SrcF.drewK {w : World} {k m : Nat} {x : Value} {ys : List Int} (h : SrcF w k x m ys) : SrcF w.drew k x m ys := h
theorem Own.atJ {w : World} {B g n c : Nat} {E : TypeId} {zs : List Int} (h : Own w B E (.slice (some ⟨g, 0, none⟩) n c) n zs) (j : Nat) (hj : j < n) : w.cell? ⟨g, j, none⟩ = some (.int .i64 (zs.getD j 0)) := by
  rw [World.ownsRow.cellAt h j (by omega)]
  have := h.len
  simp [List.getD, List.getElem?_eq_getElem (show j < zs.length by omega)]
/-- One cell holds a value. -/
def Cl (w : World) (p : Addr) (v : Value) : Prop := p.block < w.heap.size ∧ w.cell? p = some v
theorem Cl.go {a b : World} {p : Addr} {v : Value} (h : Cl a p v) (hb : Below a.heap.size a b) : Cl b p v := ⟨Nat.lt_of_lt_of_le h.1 hb.size, (hb.cell h.1).trans h.2⟩
theorem Cl.alloc {a : World} {p : Addr} {v : Value} (h : Cl a p v) (o : Obj) : Cl (a.alloc o) p v := h.go (bel_new a o)
theorem Cl.drew {a : World} {p : Addr} {v : Value} (h : Cl a p v) : Cl a.drew p v := h
theorem Cl.grown {a b : World} {p : Addr} {v : Value} {row : Option Nat} (h : Cl a p v) (hg : a.grownBy b row) (hne : row ≠ some p.block) : Cl b p v :=
  ⟨Nat.lt_of_lt_of_le h.1 hg.size, (World.cell?_of_block (hg.block p.block h.1 (fun e => hne e.symm))).trans h.2⟩
theorem map_at {l : List Bs} {k : Nat} (h : k < l.length) : (l.map txtB).getD k ⟨#[]⟩ = txtB (l.getD k []) := by simp [List.getD, List.getElem?_eq_getElem h]
theorem words_at {b : UInt8} {s : ByteArray} {k : Nat} (h : k < (splB b s).dropLast.length) : (splB b s).dropLast.getD k ⟨#[]⟩ = txtB ((spl b s.data.toList).dropLast.getD k []) := by
  have e : (splB b s).dropLast = (spl b s.data.toList).dropLast.map txtB := by rw [splB, List.dropLast_eq_take, List.dropLast_eq_take, List.map_take, List.length_map]
  rw [e] at h ⊢
  rw [List.length_map] at h
  exact map_at h
theorem words_len (b : UInt8) (s : ByteArray) : (splB b s).dropLast.length = (spl b s.data.toList).dropLast.length := by rw [splB, List.length_dropLast, List.length_dropLast, List.length_map]
theorem word_size {b : UInt8} {l : Bs} {k : Nat} (h : k < (spl b l).dropLast.length) : ((spl b l).dropLast.getD k []).length ≤ l.length := by
  have hm : (spl b l).dropLast.getD k [] ∈ (spl b l).dropLast := by
    rw [List.getD_eq_getElem?_getD, List.getElem?_eq_getElem h]
    exact List.getElem_mem _
  exact spl_mem b l _ ((List.dropLast_sublist _).subset hm)
theorem take_at {l : List Bs} {k : Nat} (h : k < l.length) : l.take (k + 1) = l.take k ++ [l.getD k []] := by
  rw [List.take_succ_eq_append_getElem h]
  simp [List.getD, List.getElem?_eq_getElem h]
theorem mem_at {l : List Bs} {k : Nat} (h : k < l.length) : l.getD k [] ∈ l := by simp [List.getD, List.getElem?_eq_getElem h]
theorem OwnS.atJ {w : World} {B g n c : Nat} {E : TypeId} {zs : List ByteArray} (h : OwnS w B E (.slice (some ⟨g, 0, none⟩) n c) n zs) (j : Nat) (hj : j < n) : w.cell? ⟨g, j, none⟩ = some (.string (zs.getD j ⟨#[]⟩)) := by
  rw [World.ownsRow.cellAt h j (by omega)]
  have := h.len
  simp [List.getD, List.getElem?_eq_getElem (show j < zs.length by omega)]
theorem two_of {l : List Bs} (h : l.length = 2) : ∃ a b, l = [a, b] := by
  match l, h with
  | [a, b], _ => exact ⟨a, b, rfl⟩
end Go.Proofs.YtfkglbmdpefigaaGreatDoor
