/- Small words of worlds and rows. No program is named here. -/
import Derived.Test.YtfkglbmdpefigaaGreatDoorPnt
namespace Go.Proofs.YtfkglbmdpefigaaGreatDoor
open Go.RowKit
theorem bel_drewN {a b : World} {B : Nat} (h : Below B a b) (k : Nat) : Below B a (b.drewN k) := by
  induction k generalizing b with
  | zero => exact h
  | succ k ih => exact (ih h).drew
def lenOf : Value → Nat
  | .slice _ n _ => n
  | _ => 0
theorem cell_drew (w : World) (p : Addr) : w.drew.cell? p = w.cell? p := rfl
theorem OwnP.drew1 {w : World} {B n : Nat} {E : TypeId} {v : Value} {l : List Pnt} (h : OwnP w B E v n l) : OwnP w.drew B E v n l := h
theorem OwnF.drew1 {w : World} {B k n : Nat} {E : TypeId} {v : Value} {zs : List Int} (h : OwnF w B E k v n zs) : OwnF w.drew B E k v n zs := h
end Go.Proofs.YtfkglbmdpefigaaGreatDoor
