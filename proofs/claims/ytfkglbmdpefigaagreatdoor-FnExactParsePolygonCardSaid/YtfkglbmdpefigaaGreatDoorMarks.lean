/- Marks written into a row of integers, k cells an element. No program is named here. -/
import Derived.Test.YtfkglbmdpefigaaGreatDoorWide
namespace Go.Proofs.YtfkglbmdpefigaaGreatDoor
open Go.RowKit
/-- The marks k, k + 1, .. -/
def marksI (k : Int) (n : Nat) : List Int := (List.range n).map fun i : Nat => k + (i : Int)
theorem marksI_len (k : Int) (n : Nat) : (marksI k n).length = n := by simp [marksI]
theorem marksI_at {k : Int} {n j : Nat} (h : j < n) : (marksI k n).getD j 0 = k + j := by simp [marksI, List.getD, h]
theorem marksI_step (k : Int) {zs : List Int} {n j : Nat} (hl : zs.length = n) (hj : j < n) : (marksI k j ++ zs.drop j).set j (k + j) = marksI k (j + 1) ++ zs.drop (j + 1) := by
  have h1 : (marksI k j).length = j := marksI_len k j
  have h2 : zs.drop j = zs.getD j 0 :: zs.drop (j + 1) := by
    rw [List.drop_eq_getElem_cons (by omega)]
    simp [List.getD, List.getElem?_eq_getElem (show j < zs.length by omega)]
  rw [List.set_append_right _ _ (by omega), h1, Nat.sub_self, h2, List.set_cons_zero]
  have h3 : marksI k (j + 1) = marksI k j ++ [k + (j : Int)] := by simp [marksI, List.range_succ]
  rw [h3, List.append_assoc]
  rfl
/-- 'mark': the row's cells become k, k + 1, ..; nothing else turns. -/
def MarkedF (E : TypeId) (q : Nat) (B : Nat) (A : Option Addr) (n c : Nat) (k : Int) (w : World) (e : Ending) (w' : World) : Prop :=
  e = .returned (.int .i64 (k + ((n * q : Nat) : Int))) ∧ OwnF w' B E q (.slice A n c) n (marksI k (n * q)) ∧ w.grownBy w' (Value.slice A n c).ownBlock
end Go.Proofs.YtfkglbmdpefigaaGreatDoor
