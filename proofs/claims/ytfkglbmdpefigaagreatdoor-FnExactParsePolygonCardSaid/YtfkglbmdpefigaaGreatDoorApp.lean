/- 'append' on a row of the call's own, with where the new row lies. No program is named here. -/
import Derived.Test.YtfkglbmdpefigaaGreatDoorWide
import Derived.Maps.AppendAt
namespace Go.Proofs.YtfkglbmdpefigaaGreatDoor
open Go.RowKit
/-- wp_app1, and: a block that was there and is not the row's is not the new row's either. -/
theorem wp_app1b {P : Program} {W : World} {ops : Array Oper} {rest : List Oper} {o : Oper} {a : Act} {Q : Exit → Act → World → Prop} (hgd : o.guard = none) (s x : Operand) (t : TypeId)
    (ho : o.op = .call { callee := .builtin .append, args := #[s, x], argTypes := #[t, t] })
    (base : Nat) (e : TypeId) (i : TypeInfo) (ht : P.underlying t = some (.slice e)) (hi : P.info? e = some i) (hz : i.zero = some (.int .i64 0)) (hsize : i.size = 1) (hby : i.bytes = 8)
    (v : Value) (n : Nat) (zs : List Int) (hs : a.eval s = v) (hown : Own W base e v n zs) (z : Int) (hx : a.eval x = .slice (some ⟨W.heap.size, 0, none⟩) 1 1)
    (hn : n ≤ 17592186040000) (hbase : base ≤ W.heap.size)
    (h : ∀ v' w', Own w' base e v' (n + 1) (zs ++ [z]) → Below base W w' → W.grownBy w' v.ownBlock → (∀ g, g < W.heap.size → v.ownBlock ≠ some g → v'.ownBlock ≠ some g) → wpList P ops Q rest (a.put o.dst v') w') : wpList P ops Q (o :: rest) a (W.alloc (.cells #[.int .i64 z] e)) := by
  refine wpList_append_own_at _ hgd s x t ho base e i (.int .i64 0) 1 8 ht hi hz hsize hby rfl (by decide) v n _ hs (World.ownsRow.alloc hown _) ⟨W.heap.size, 0, none⟩ 1 1 [.int .i64 z] hx rfl
    (cell_one_new _ _ _) (fun u hu => by simp at hu; subst hu; rfl) (by unfold maxLen; omega) (by omega) (by simp; omega) fun v' w' h1 h2 _ h4 => ?_
  have g : W.grownBy w' v.ownBlock := ⟨h2.os, h2.tape, h2.output, Nat.le_trans (by simp) h2.size, fun k hk hne => (h2.block k (by simp; omega) hne).trans (Below.heap_alloc W _ k hk)⟩
  refine h v' w' ?_ ((Below.refl _ _).grown g hbase fun k hk => ((Own.lt hown) k hk).1) g fun q hq hne => ?_
  · have : (zs.map (Value.int .i64)) ++ [.int .i64 z] = (zs ++ [z]).map (Value.int .i64) := by simp
    unfold Own
    rw [← this]
    exact h1
  · rcases h4 with h4 | h4
    · rw [h4]; exact hne
    · rw [h4, World.size_alloc]
      intro e
      have := Option.some.inj e
      omega
theorem Bx.grown {a b : World} {k : Nat} {cs : List Value} {row : Option Nat} (h : Bx a k cs) (hg : a.grownBy b row) (hne : row ≠ some k) : Bx b k cs := by
  have hb := hg.block k h.1 (fun e => hne e.symm)
  exact ⟨Nat.lt_of_lt_of_le h.1 hg.size, fun o v hv => (World.cell?_of_block hb).trans (h.2.1 o v hv), fun o => (World.frozen?_of_block hb).trans (h.2.2 o)⟩
theorem ne_blk {v : Value} {B S k : Nat} (h : ∀ g, v.ownBlock = some g → B ≤ g ∧ g < S) (hk : S ≤ k) : v.ownBlock ≠ some k := fun e => by
  have := (h k e).2
  omega
end Go.Proofs.YtfkglbmdpefigaaGreatDoor
