/- 'append' of whatever slice on a row of the call's own, at a plain operation and at a step of a region that draws. No program is named here. -/
import Derived.Test.YtfkglbmdpefigaaGreatDoorApp
import Derived.Deep.AppendLies
namespace Go.Proofs.YtfkglbmdpefigaaGreatDoor
open Go.RowKit
/-- The slice value x reads as m elements of k cells each, the integers ys (nil too). -/
def SrcF (w : World) (k : Nat) (x : Value) (m : Nat) (ys : List Int) : Prop :=
  (x = .slice none 0 0 ∧ m = 0 ∧ ys = []) ∨ ∃ ad c, x = .slice (some ad) m c ∧ ys.length = m * k ∧ ∀ j z, ys[j]? = some z → w.cell? (ad.add j) = some (.int .i64 z)
theorem SrcF.keep {w w' : World} {B k m : Nat} {x : Value} {ys : List Int} (h : SrcF w k x m ys) (hb : Below B w w') (hx : ∀ g, x.ownBlock = some g → g < B) : SrcF w' k x m ys := by
  rcases h with h | ⟨ad, c, rfl, h1, h2⟩
  · exact .inl h
  · exact .inr ⟨ad, c, rfl, h1, fun j z hj => (hb.cell (p := ad.add j) (by rw [blk_add]; exact hx _ rfl)).trans (h2 j z hj)⟩
theorem SrcF.keptBlk {w w' : World} {k m : Nat} {x : Value} {ys : List Int} {row : Option Nat} (h : SrcF w k x m ys) (hg : w.grownBy w' row) (hx : ∀ g, x.ownBlock = some g → g < w.heap.size ∧ row ≠ some g) : SrcF w' k x m ys := by
  rcases h with h | ⟨ad, c, rfl, h1, h2⟩
  · exact .inl h
  · refine .inr ⟨ad, c, rfl, h1, fun j z hj => ?_⟩
    have := hx _ rfl
    exact (World.cell?_of_block (a := ad.add j) (by rw [blk_add]; exact hg.block _ this.1 (fun e => this.2 e.symm))).trans (h2 j z hj)
theorem SrcF.new (w : World) (k : Nat) (ys : List Int) (e : TypeId) (hk : ys.length = k) : SrcF (w.alloc (.cells (ys.map (Value.int .i64)).toArray e)) k (.slice (some ⟨w.heap.size, 0, none⟩) 1 1) 1 ys :=
  .inr ⟨_, _, rfl, by rw [hk, Nat.one_mul], fun j z hj => by
    rw [Addr.add_lit, cell_of_row _ _ _ _ _ _ (heap_alloc_new w _)]
    simp [hj]⟩
theorem run_appF {P : Program} {W : World} (t ty : TypeId) (base : Nat) (e : TypeId) (k : Nat) (i : TypeInfo) (z : Value) (ht : P.underlying t = some (.slice e)) (hi : P.info? e = some i) (hz : i.zero = some z) (hsize : i.size = k) (hby : i.bytes = 8 * k) (hk : 0 < k) (hk3 : k ≤ 4) (hzs : z.cells.size = k)
    (v : Value) (n : Nat) (zs : List Int) (hown : OwnF W base e k v n zs) (x : Value) (m : Nat) (ys : List Int) (hsrc : SrcF W k x m ys) (hn : n + m ≤ 3000000000) (hbase : base ≤ W.heap.size) :
    ∃ v' w', (Builtin.append_ #[t, t] ty #[v, x]).run P W = .ok v' w' ∧ OwnF w' base e k v' (n + m) (zs ++ ys) ∧ W.grownBy w' v.ownBlock ∧ (v'.ownBlock = v.ownBlock ∨ v'.ownBlock = some W.heap.size) := by
  rcases hsrc with ⟨rfl, rfl, rfl⟩ | ⟨ad, c, rfl, h1, h2⟩
  · exact ⟨v, W, run_append_owned_none W base t ty e i k ht hi v n _ hown, by rw [List.append_nil]; exact hown, World.grownBy.refl _ _, .inl rfl⟩
  · have hb : (n + m) * (8 * k) ≤ 140737488355328 := by
      have := Nat.mul_le_mul (show n + m ≤ 3000000000 by omega) (show 8 * k ≤ 32 by omega)
      omega
    obtain ⟨v', w', hr, g1, g2, _, g4⟩ := run_append_own_at (P := P) W base t ty e i z k (8 * k) ht hi hz hsize hby hzs hk v n _ hown ad m c (ys.map (Value.int .i64)) (by rw [List.length_map]; exact h1)
      (fun j u hj => by
        rw [List.getElem?_map] at hj
        cases hy : ys[j]? with
        | none => rw [hy] at hj; cases hj
        | some y =>
          rw [hy] at hj
          cases hj
          exact h2 j y hy) (fun u hu => by
        simp at hu
        obtain ⟨y, _, rfl⟩ := hu
        rfl) (by unfold maxLen; omega) hb hbase
    refine ⟨v', w', hr, ?_, g2, g4⟩
    unfold OwnF
    rw [List.map_append]
    exact g1
theorem wp_appSrc {P : Program} {W : World} {o : Oper} {a : Act} {K : Act → World → Prop} {Q : Exit → Act → World → Prop} (s x : Operand) (t : TypeId)
    (ho : o.op = .call { callee := .builtin .append, args := #[s, x], argTypes := #[t, t] })
    (base : Nat) (e : TypeId) (k : Nat) (i : TypeInfo) (z : Value) (ht : P.underlying t = some (.slice e)) (hi : P.info? e = some i) (hz : i.zero = some z) (hsize : i.size = k) (hby : i.bytes = 8 * k) (hk : 0 < k) (hk3 : k ≤ 4) (hzs : z.cells.size = k)
    (v : Value) (n : Nat) (zs : List Int) (hs : a.eval s = v) (hown : OwnF W base e k v n zs) (xv : Value) (m : Nat) (ys : List Int) (hx : a.eval x = xv) (hsrc : SrcF W k xv m ys) (hn : n + m ≤ 3000000000) (hbase : base ≤ W.heap.size)
    (h : ∀ v' w', OwnF w' base e k v' (n + m) (zs ++ ys) → Below base W w' → W.grownBy w' v.ownBlock → (v'.ownBlock = v.ownBlock ∨ v'.ownBlock = some W.heap.size) → K (a.put o.dst v') w') : o.wp P a W K Q := by
  obtain ⟨v', w', hr, h2, h3, h4⟩ := run_appF (P := P) t o.type base e k i z ht hi hz hsize hby hk hk3 hzs v n zs hown xv m ys hsrc hn hbase
  unfold Oper.wp execOp
  simp only [ho, resolve, invoke, builtin, Sem.run_bind, Sem.run_pure, Result.andThen_ok, List.map_toArray, List.map_cons, List.map_nil, hs, hx, hr]
  exact h v' w' h2 ((Below.refl _ _).grown h3 hbase fun q hq => ((OwnF.lt hown) q hq).1) h3 h4
/-- At a plain region's list. -/
theorem wpList_appSrc {P : Program} {W : World} {ops : Array Oper} {rest : List Oper} {o : Oper} {a : Act} {Q : Exit → Act → World → Prop} (hgd : o.guard = none) (s x : Operand) (t : TypeId)
    (ho : o.op = .call { callee := .builtin .append, args := #[s, x], argTypes := #[t, t] })
    (base : Nat) (e : TypeId) (k : Nat) (i : TypeInfo) (z : Value) (ht : P.underlying t = some (.slice e)) (hi : P.info? e = some i) (hz : i.zero = some z) (hsize : i.size = k) (hby : i.bytes = 8 * k) (hk : 0 < k) (hk3 : k ≤ 4) (hzs : z.cells.size = k)
    (v : Value) (n : Nat) (zs : List Int) (hs : a.eval s = v) (hown : OwnF W base e k v n zs) (xv : Value) (m : Nat) (ys : List Int) (hx : a.eval x = xv) (hsrc : SrcF W k xv m ys) (hn : n + m ≤ 3000000000) (hbase : base ≤ W.heap.size)
    (h : ∀ v' w', OwnF w' base e k v' (n + m) (zs ++ ys) → Below base W w' → W.grownBy w' v.ownBlock → (v'.ownBlock = v.ownBlock ∨ v'.ownBlock = some W.heap.size) → wpList P ops Q rest (a.put o.dst v') w') : wpList P ops Q (o :: rest) a W :=
  wpList_plain hgd fun _ hK => wp_appSrc s x t ho base e k i z ht hi hz hsize hby hk hk3 hzs v n zs hs hown xv m ys hx hsrc hn hbase fun v' w' h2 h3 h4 h5 => hK _ _ (h v' w' h2 h3 h4 h5)
/-- At a step of a region that draws. -/
theorem step_appSrc {P : Program} {W : World} {ops : Array Oper} {o : Oper} {a : Act} {K : Act → World → Prop} {Q : Exit → Act → World → Prop} {E : Prop} (hgd : o.guard = none) (s x : Operand) (t : TypeId)
    (ho : o.op = .call { callee := .builtin .append, args := #[s, x], argTypes := #[t, t] })
    (base : Nat) (e : TypeId) (k : Nat) (i : TypeInfo) (z : Value) (ht : P.underlying t = some (.slice e)) (hi : P.info? e = some i) (hz : i.zero = some z) (hsize : i.size = k) (hby : i.bytes = 8 * k) (hk : 0 < k) (hk3 : k ≤ 4) (hzs : z.cells.size = k)
    (v : Value) (n : Nat) (zs : List Int) (hs : a.eval s = v) (hown : OwnF W base e k v n zs) (xv : Value) (m : Nat) (ys : List Int) (hx : a.eval x = xv) (hsrc : SrcF W k xv m ys) (hn : n + m ≤ 3000000000) (hbase : base ≤ W.heap.size)
    (h : ∀ v' w', OwnF w' base e k v' (n + m) (zs ++ ys) → Below base W w' → W.grownBy w' v.ownBlock → (v'.ownBlock = v.ownBlock ∨ v'.ownBlock = some W.heap.size) → K (a.put o.dst v') w') :
    if Region.wanted o (yielded ops a.tmps) = true then Oper.wp P o a W K Q else E := by
  have hw : Region.wanted o (yielded ops a.tmps) = true := by simp [Region.wanted, hgd]
  rw [if_pos hw]
  exact wp_appSrc s x t ho base e k i z ht hi hz hsize hby hk hk3 hzs v n zs hs hown xv m ys hx hsrc hn hbase h
end Go.Proofs.YtfkglbmdpefigaaGreatDoor
