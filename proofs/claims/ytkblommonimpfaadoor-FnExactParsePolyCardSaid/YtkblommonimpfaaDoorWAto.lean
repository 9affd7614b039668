/- The library's Atoi at every string: a number and no error, or some number and an error. -/
import Derived.Test.YtkblommonimpfaaDoorWTxt
import Derived.Test.YtkblommonimpfaaDoorPureDec
import Derived.Shelf.Strconv.ErrVarAll
import Derived.Lib.SmallJoins
namespace Go.Proofs.YtkblommonimpfaaDoor
open Go.RowKit
/-- The library's two errors read as they are listed. -/
def ErrOk (w : World) : Prop := (∃ tp p, w.var? Tryd.prog "strconv.ErrSyntax" = some #[.iface tp p]) ∧ ∃ tp p, w.var? Tryd.prog "strconv.ErrRange" = some #[.iface tp p]
theorem var_go {w w' : World} {n : String} {cs : Array Value} (h : w.var? Tryd.prog n = some cs) (hb : Below w.heap.size w w') : w'.var? Tryd.prog n = some cs := by
  unfold World.var? at *
  cases hg : Tryd.prog.globalNamed n with
  | none => rw [hg] at h; cases h
  | some g =>
    rw [hg] at h
    simp only [Option.bind_some] at h ⊢
    have hlt : g < w.heap.size := by
      apply Decidable.byContradiction
      intro hc
      rw [Array.getElem?_eq_none (by omega)] at h
      cases h
    rw [hb.block g hlt]
    exact h
theorem ErrOk.go {w w' : World} (h : ErrOk w) (hb : Below w.heap.size w w') : ErrOk w' := by
  obtain ⟨⟨a, b, h1⟩, c, d, h2⟩ := h
  exact ⟨⟨a, b, var_go h1 hb⟩, c, d, var_go h2 hb⟩
theorem atoi_ok (s : ByteArray) (hs : s.size ≤ 1048576) (v : Int) (h : Lib.atoiAll s.data.toList = .ok v) (w : World) :
    Calls Tryd.prog 23 #[.string s] w fun e w' => e = .returned (.tuple #[.int .i64 v, .nilIface]) ∧ Below w.heap.size w w' :=
  (Any.strconv_Atoi_ok Tryd.atoi s (by omega) v h w).mono fun e w' ⟨he, hw⟩ => ⟨he, by
    rcases hw with rfl | ⟨t, rfl⟩
    · exact Below.refl _ _
    · exact Go.Joins.below_bytesWorld _ _ _ _ (Nat.le_refl _)⟩
theorem atoi_no (s : ByteArray) (hs : s.size ≤ 1048576) (h : ∀ v, Lib.atoiAll s.data.toList ≠ .ok v) (w : World) (hE : ErrOk w) :
    Calls Tryd.prog 23 #[.string s] w fun e w' => ∃ v t p, e = .returned (.tuple #[.int .i64 v, .iface t p]) ∧ Below w.heap.size w w' := by
  obtain ⟨⟨tp, p, h1⟩, tq, q, h2⟩ := hE
  cases ha : Lib.atoiAll s.data.toList
  · rename_i v
    exact absurd ha (h v)
  · exact (Any.strconv_Atoi_syntax_var Tryd.atoi s (by omega) ha tp p w h1).mono fun e w' ⟨N, he, _, _, hb⟩ => ⟨_, _, _, he, hb⟩
  · exact (Any.strconv_Atoi_range_var Tryd.atoi s (by omega) ha tq q w h2).mono fun e w' ⟨N, he, _, _, hb⟩ => ⟨_, _, _, he, hb⟩
end Go.Proofs.YtkblommonimpfaaDoor
