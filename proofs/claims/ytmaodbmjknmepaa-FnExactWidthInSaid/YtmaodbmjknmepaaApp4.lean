/- 'append' on an owned row of structs, with where the new row lies. No program is named here. -/
import Derived.Test.YtmaodbmjknmepaaTrm
import Derived.Maps.AppendAt
namespace Go.Proofs.Ytmaodbmjknmepaa
open Go.RowKit
/-- 'append(out, x)' on a row of the call's own: x (k cells) has just been laid in a block of its own. -/
theorem wp_appFb {P : Program} {W : World} {ops : Array Oper} {rest : List Oper} {o : Oper} {a : Act} {Q : Exit → Act → World → Prop} (hgd : o.guard = none) (s x : Operand) (t : TypeId)
    (ho : o.op = .call { callee := .builtin .append, args := #[s, x], argTypes := #[t, t] })
    (base : Nat) (e : TypeId) (k : Nat) (i : TypeInfo) (z : Value) (ht : P.underlying t = some (.slice e)) (hi : P.info? e = some i) (hz : i.zero = some z) (hsize : i.size = k) (hby : i.bytes = 8 * k) (hk : 0 < k) (hk3 : k ≤ 4) (hzs : z.cells.size = k)
    (v : Value) (n : Nat) (zs : List Int) (hs : a.eval s = v) (hown : OwnF W base e k v n zs) (ys : List Int) (hys : ys.length = k) (hx : a.eval x = .slice (some ⟨W.heap.size, 0, none⟩) 1 1)
    (hn : n ≤ 3000000000) (hbase : base ≤ W.heap.size)
    (h : ∀ v' w', OwnF w' base e k v' (n + 1) (zs ++ ys) → Below base W w' → W.grownBy w' v.ownBlock → (∀ g, g < W.heap.size → v.ownBlock ≠ some g → v'.ownBlock ≠ some g) → wpList P ops Q rest (a.put o.dst v') w') : wpList P ops Q (o :: rest) a (W.alloc (.cells (ys.map (Value.int .i64)).toArray e)) := by
  refine wpList_append_own_at _ hgd s x t ho base e i z k (8 * k) ht hi hz hsize hby hzs (by omega) v n _ hs (World.ownsRow.alloc hown _) ⟨W.heap.size, 0, none⟩ 1 1 (ys.map (Value.int .i64)) hx (by simp [hys])
    (fun j u hj => ?_) (fun u hu => ?_) (by unfold maxLen; omega) ?_ (by simp; omega) fun v' w' h1 h2 _ h4 => ?_
  · rw [Addr.add_lit, cell_of_row _ _ _ _ _ _ (heap_alloc_new W _)]
    simpa using hj
  · simp at hu
    obtain ⟨y, _, rfl⟩ := hu
    rfl
  · have := Nat.mul_le_mul (show n + 1 ≤ 3000000001 by omega) (show 8 * k ≤ 32 by omega)
    omega
  have g : W.grownBy w' v.ownBlock := ⟨h2.os, h2.tape, h2.output, Nat.le_trans (by simp) h2.size, fun k hk hne => (h2.block k (by simp; omega) hne).trans (Below.heap_alloc W _ k hk)⟩
  refine h v' w' ?_ ((Below.refl _ _).grown g hbase fun k hk => ((OwnF.lt hown) k hk).1) g fun q hq hne => ?_
  · have : (zs.map (Value.int .i64)) ++ ys.map (Value.int .i64) = (zs ++ ys).map (Value.int .i64) := by simp
    unfold OwnF
    rw [← this]
    exact h1
  · rcases h4 with h4 | h4
    · rw [h4]; exact hne
    · rw [h4, World.size_alloc]
      intro e
      have := Option.some.inj e
      omega
theorem wp_appTb {P : Program} {W : World} {ops : Array Oper} {rest : List Oper} {o : Oper} {a : Act} {Q : Exit → Act → World → Prop} (hgd : o.guard = none) (s x : Operand) (t : TypeId)
    (ho : o.op = .call { callee := .builtin .append, args := #[s, x], argTypes := #[t, t] })
    (base : Nat) (e : TypeId) (i : TypeInfo) (ht : P.underlying t = some (.slice e)) (hi : P.info? e = some i) (hz : i.zero = some (.agg #[.int .i64 0, .int .i64 0, .int .i64 0])) (hsize : i.size = 3) (hby : i.bytes = 24)
    (v : Value) (n : Nat) (l : List Trm) (hs : a.eval s = v) (hown : OwnT W base e v n l) (t0 t1 t2 : Int) (hx : a.eval x = .slice (some ⟨W.heap.size, 0, none⟩) 1 1)
    (hn : n ≤ 3000000000) (hbase : base ≤ W.heap.size)
    (h : ∀ v' w', OwnT w' base e v' (n + 1) (l ++ [(t0, t1, t2)]) → Below base W w' → W.grownBy w' v.ownBlock → (∀ g, g < W.heap.size → v.ownBlock ≠ some g → v'.ownBlock ≠ some g) → wpList P ops Q rest (a.put o.dst v') w') : wpList P ops Q (o :: rest) a (W.alloc (.cells #[.int .i64 t0, .int .i64 t1, .int .i64 t2] e)) :=
  wp_appFb hgd s x t ho base e 3 i _ ht hi hz hsize hby (by omega) (by omega) rfl v n (flatT l) hs hown [t0, t1, t2] rfl hx hn hbase fun v' w' h1 h2 h3 h4 => h v' w' (by unfold OwnT; rw [flatT_snoc]; exact h1) h2 h3 h4
end Go.Proofs.Ytmaodbmjknmepaa
