/- Slices whose elements are structs of k integers: one that reads as a list, one that the call owns. No program is named here. -/
import Derived.Test.YtkblommonimpfaaDoorBase
namespace Go.Proofs.YtkblommonimpfaaDoor
open Go.RowKit
/-- The slice of first cell A and n elements of k cells each reads as the integers zs; its cells lie below block B. -/
def RdF (w : World) (B k : Nat) (A : Option Addr) (n : Nat) (zs : List Int) : Prop :=
  zs.length = n * k ∧ n ≤ maxLen ∧ (0 < n → ∃ b o, A = some ⟨b, o, none⟩ ∧ b < B ∧ ∀ i z, zs[i]? = some z → w.cell? ⟨b, o + i, none⟩ = some (.int .i64 z))
section
variable {w w' : World} {B B' k n : Nat} {A : Option Addr} {zs : List Int}
theorem RdF.len (h : RdF w B k A n zs) : zs.length = n * k := h.1
theorem RdF.le (h : RdF w B k A n zs) : n ≤ 9223372036854775807 := by have := h.2.1; unfold maxLen at this; omega
theorem RdF.none_ : RdF w B k A 0 [] := ⟨by simp, Nat.zero_le _, fun h => absurd h (by omega)⟩
theorem RdF.at_ (h : RdF w B k A n zs) (hn : 0 < n) : ∃ b o, A = some ⟨b, o, none⟩ ∧ b < B ∧ ∀ i, i < n * k → w.cell? ⟨b, o + i, none⟩ = some (.int .i64 (zs.getD i 0)) := by
  obtain ⟨b, o, e, hb, hc⟩ := h.2.2 hn
  refine ⟨b, o, e, hb, fun i hi => hc i _ ?_⟩
  have := h.1
  simp [List.getD, List.getElem?_eq_getElem (show i < zs.length by omega)]
theorem RdF.keep (h : RdF w B k A n zs) (hk : ∀ p : Addr, p.block < B → w'.cell? p = w.cell? p) : RdF w' B k A n zs :=
  ⟨h.1, h.2.1, fun hn => by
    obtain ⟨b, o, e, hb, hc⟩ := h.2.2 hn
    exact ⟨b, o, e, hb, fun i z hz => (hk _ hb).trans (hc i z hz)⟩⟩
theorem RdF.more (h : RdF w B k A n zs) (hB : B ≤ B') : RdF w B' k A n zs :=
  ⟨h.1, h.2.1, fun hn => by
    obtain ⟨b, o, e, hb, hc⟩ := h.2.2 hn
    exact ⟨b, o, e, by omega, hc⟩⟩
theorem RdF.below (h : RdF w B k A n zs) (hb : Below B w w') : RdF w' B k A n zs := h.keep fun _ hp => hb.cell hp
theorem RdF.drewN (h : RdF w B k A n zs) (j : Nat) : RdF (w.drewN j) B k A n zs := h
theorem RdF.of_own {base : Nat} {e : TypeId} {c : Nat} (h : w.ownsRow base e k (.slice A n c) n (zs.map (Value.int .i64))) : RdF w w.heap.size k A n zs := by
  have hl : zs.length = n * k := by simpa using h.1
  rcases h.2 with ⟨hv, h0⟩ | ⟨g, cap, cur, hv, _, hg, hnc, hcm, _⟩
  · subst h0
    exact ⟨hl, Nat.zero_le _, fun hn => absurd hn (by omega)⟩
  · refine ⟨hl, by omega, fun _ => ⟨g, 0, ?_, (Array.getElem?_eq_some_iff.1 hg).1, fun i z hz => ?_⟩⟩
    · injection hv
    · have := h.cells (g := g) (by rw [hv]; rfl) i _ (by rw [List.getElem?_map, hz]; rfl)
      rwa [Addr.add_lit] at this
end
/-- The slice value v of n elements owns a row (from block B on) that holds the integers zs, k cells an element. -/
def OwnF (w : World) (B : Nat) (E : TypeId) (k : Nat) (v : Value) (n : Nat) (zs : List Int) : Prop := w.ownsRow B E k v n (zs.map (Value.int .i64))
def RetF (E : TypeId) (k : Nat) (ys : List Int) (w : World) (e : Ending) (w' : World) : Prop := ∃ A n c, e = .returned (.slice A n c) ∧ OwnF w' w.heap.size E k (.slice A n c) n ys ∧ Below w.heap.size w w' ∧ n ≤ 3000000000
def RetFB (E : TypeId) (k : Nat) (ys : List Int) (ok : Bool) (w : World) (e : Ending) (w' : World) : Prop := ∃ A n c, e = .returned (.tuple #[.slice A n c, .bool ok]) ∧ OwnF w' w.heap.size E k (.slice A n c) n ys ∧ Below w.heap.size w w' ∧ n ≤ 3000000000
section
variable {w w' : World} {B B' n k : Nat} {E : TypeId} {v : Value} {A : Option Addr} {c : Nat} {zs : List Int}
theorem OwnF.len (h : OwnF w B E k v n zs) : zs.length = n * k := by have := h.1; simpa using this
theorem OwnF.nil (w : World) (B : Nat) (E : TypeId) (k : Nat) : OwnF w B E k (.slice none 0 0) 0 [] := World.ownsRow_nil w B E k
theorem OwnF.shape (h : OwnF w B E k v n zs) : ∃ A c, v = .slice A n c := by
  rcases h.2 with ⟨hv, h0⟩ | ⟨g, cap, cur, hv, _⟩
  · exact ⟨none, 0, by rw [hv, h0]⟩
  · exact ⟨_, cap, hv⟩
theorem OwnF.rd (h : OwnF w B E k (.slice A n c) n zs) : RdF w w.heap.size k A n zs := RdF.of_own h
theorem OwnF.le (h : OwnF w B E k (.slice A n c) n zs) : n ≤ 9223372036854775807 := h.rd.le
theorem OwnF.more (h : OwnF w B E k v n zs) (hB : B' ≤ B) : OwnF w B' E k v n zs := by
  refine ⟨h.1, ?_⟩
  rcases h.2 with h2 | ⟨g, cap, cur, hv, hg, r⟩
  · exact .inl h2
  · exact .inr ⟨g, cap, cur, hv, by omega, r⟩
theorem OwnF.new (h : OwnF w B E k v n zs) (o : Obj) : OwnF (w.alloc o) B E k v n zs := World.ownsRow.alloc h o
theorem OwnF.drewN (h : OwnF w B E k v n zs) (j : Nat) : OwnF (w.drewN j) B E k v n zs := h
theorem OwnF.lt (h : OwnF w B E k v n zs) : ∀ j, v.ownBlock = some j → B ≤ j ∧ j < w.heap.size := World.ownsRow.lt h
theorem OwnF.kept {row : Option Nat} (h : OwnF w B E k v n zs) (hg : w.grownBy w' row) (hne : v.ownBlock = none ∨ v.ownBlock ≠ row) : OwnF w' B E k v n zs := World.ownsRow.kept h hg hne
theorem OwnF.go (h : OwnF w B E k v n zs) (hb : Below w.heap.size w w') : OwnF w' B E k v n zs := by
  refine ⟨h.1, ?_⟩
  rcases h.2 with h2 | ⟨g, cap, cur, hv, hg, hh, r⟩
  · exact .inl h2
  · exact .inr ⟨g, cap, cur, hv, hg, (hb.block g (Array.getElem?_eq_some_iff.1 hh).1).trans hh, r⟩
theorem ownF_eq {zs' : List Int} (h : OwnF w B E k v n zs) (e : zs = zs') : OwnF w B E k v n zs' := e ▸ h
theorem OwnF.head (h : OwnF w B E k (.slice A n c) n zs) (hn : 0 < n) : ∃ g, A = some ⟨g, 0, none⟩ := by
  rcases h.2 with ⟨_, h0⟩ | ⟨g, cap, cur, hv, _⟩
  · omega
  · injection hv with h1
    exact ⟨g, h1⟩
section
variable {g : Nat}
theorem OwnF.frozenAt (h : OwnF w B E k (.slice (some ⟨g, 0, none⟩) n c) n zs) (j : Nat) : w.frozen? ⟨g, j, none⟩ = false := World.ownsRow.frozenAt h j
theorem OwnF.getAt (h : OwnF w B E k (.slice (some ⟨g, 0, none⟩) n c) n zs) (j : Nat) (hj : j < n * k) : w.cell? ⟨g, j, none⟩ = some (.int .i64 (zs.getD j 0)) := by
  rw [World.ownsRow.cellAt h j hj]
  have := h.len
  simp [List.getD, List.getElem?_eq_getElem (show j < zs.length by omega)]
theorem OwnF.set_ (h : OwnF w B E k (.slice (some ⟨g, 0, none⟩) n c) n zs) (j : Nat) (z : Int) : OwnF (w.setCell ⟨g, j, none⟩ (.int .i64 z)) B E k (.slice (some ⟨g, 0, none⟩) n c) n (zs.set j z) := by
  have := (World.ownsRow.stored h j (.int .i64 z)).1
  unfold OwnF
  rwa [List.map_set]
theorem OwnF.set_grown (h : OwnF w B E k (.slice (some ⟨g, 0, none⟩) n c) n zs) (j : Nat) (z : Int) : w.grownBy (w.setCell ⟨g, j, none⟩ (.int .i64 z)) (Value.slice (some ⟨g, 0, none⟩) n c).ownBlock :=
  (World.ownsRow.stored h j (.int .i64 z)).2
theorem OwnF.there (h : OwnF w B E k (.slice (some ⟨g, 0, none⟩) n c) n zs) : g < w.heap.size ∧ B ≤ g := by
  have := h.lt g rfl
  omega
end
theorem retF_mk (h : OwnF w' w.heap.size E k v n zs) (hb : Below w.heap.size w w') (hn : n ≤ 3000000000) : RetF E k zs w (.returned v) w' := by
  obtain ⟨A, c, rfl⟩ := h.shape
  exact ⟨A, n, c, rfl, h, hb, hn⟩
theorem retFB_mk {ok : Bool} (h : OwnF w' w.heap.size E k v n zs) (hb : Below w.heap.size w w') (hn : n ≤ 3000000000) : RetFB E k zs ok w (.returned (.tuple #[v, .bool ok])) w' := by
  obtain ⟨A, c, rfl⟩ := h.shape
  exact ⟨A, n, c, rfl, h, hb, hn⟩
theorem ownF_ne {a b : World} {B1 B2 n1 n2 k1 k2 : Nat} {E1 E2 : TypeId} {v1 v2 : Value} {xs ys : List Int} (h1 : OwnF a B1 E1 k1 v1 n1 xs) (h2 : OwnF b B2 E2 k2 v2 n2 ys) (h : a.heap.size ≤ B2) : v1.ownBlock = none ∨ v1.ownBlock ≠ v2.ownBlock := by
  cases e1 : v1.ownBlock with
  | none => exact .inl rfl
  | some g =>
    refine .inr fun e => ?_
    have l1 := h1.lt g e1
    have l2 := h2.lt g e.symm
    omega
theorem ownF_ne' {a b : World} {B1 B2 n1 n2 k1 k2 : Nat} {E1 E2 : TypeId} {v1 v2 : Value} {xs ys : List Int} (h1 : OwnF a B1 E1 k1 v1 n1 xs) (h2 : OwnF b B2 E2 k2 v2 n2 ys) (h : a.heap.size ≤ B2) : v2.ownBlock = none ∨ v2.ownBlock ≠ v1.ownBlock := by
  rcases ownF_ne h1 h2 h with h3 | h3
  · cases e2 : v2.ownBlock with
    | none => exact .inl rfl
    | some g => exact .inr (by rw [h3]; simp)
  · exact .inr fun e => h3 e.symm
/-- '[]T{}': an empty slice in a block of its own. -/
theorem OwnF.empty (w : World) (E : TypeId) (k : Nat) (hB : B ≤ w.heap.size) : OwnF (w.alloc (.cells #[] E)) B E k (.slice (some ⟨w.heap.size, 0, none⟩) 0 0) 0 [] :=
  World.ownsRow_lit (size := k) (base := B) (e := E) w #[] 0 hB (by simp [maxLen]) (by simp)
end
/-- 'append(out, x)' on a row of the call's own: x (k cells) has just been laid in a block of its own. -/
theorem wp_appF {P : Program} {W : World} {ops : Array Oper} {rest : List Oper} {o : Oper} {a : Act} {Q : Exit → Act → World → Prop} (hgd : o.guard = none) (s x : Operand) (t : TypeId)
    (ho : o.op = .call { callee := .builtin .append, args := #[s, x], argTypes := #[t, t] })
    (base : Nat) (e : TypeId) (k : Nat) (i : TypeInfo) (z : Value) (ht : P.underlying t = some (.slice e)) (hi : P.info? e = some i) (hz : i.zero = some z) (hsize : i.size = k) (hby : i.bytes = 8 * k) (hk : 0 < k) (hk3 : k ≤ 4) (hzs : z.cells.size = k)
    (v : Value) (n : Nat) (zs : List Int) (hs : a.eval s = v) (hown : OwnF W base e k v n zs) (ys : List Int) (hys : ys.length = k) (hx : a.eval x = .slice (some ⟨W.heap.size, 0, none⟩) 1 1)
    (hn : n ≤ 3000000000) (hbase : base ≤ W.heap.size)
    (h : ∀ v' w', OwnF w' base e k v' (n + 1) (zs ++ ys) → Below base W w' → W.grownBy w' v.ownBlock → wpList P ops Q rest (a.put o.dst v') w') : wpList P ops Q (o :: rest) a (W.alloc (.cells (ys.map (Value.int .i64)).toArray e)) := by
  refine wpList_append_own _ hgd s x t ho base e i z k (8 * k) ht hi hz hsize hby hzs (by omega) v n _ hs (World.ownsRow.alloc hown _) ⟨W.heap.size, 0, none⟩ 1 1 (ys.map (Value.int .i64)) hx (by simp [hys])
    (fun j u hj => ?_) (fun u hu => ?_) (by unfold maxLen; omega) ?_ (by simp; omega) fun v' w' h1 h2 _ => ?_
  · rw [Addr.add_lit, cell_of_row _ _ _ _ _ _ (heap_alloc_new W _)]
    simpa using hj
  · simp at hu
    obtain ⟨y, _, rfl⟩ := hu
    rfl
  · have := Nat.mul_le_mul (show n + 1 ≤ 3000000001 by omega) (show 8 * k ≤ 32 by omega)
    omega
  have g : W.grownBy w' v.ownBlock := ⟨h2.os, h2.tape, h2.output, Nat.le_trans (by simp) h2.size, fun k hk hne => (h2.block k (by simp; omega) hne).trans (Below.heap_alloc W _ k hk)⟩
  refine h v' w' ?_ ((Below.refl _ _).grown g hbase fun k hk => ((OwnF.lt hown) k hk).1) g
  have : (zs.map (Value.int .i64)) ++ ys.map (Value.int .i64) = (zs ++ ys).map (Value.int .i64) := by simp
  unfold OwnF
  rw [← this]
  exact h1
theorem made_zero (k m : Nat) (hk : 0 < k) : (madeCells (List.replicate k (Value.int .i64 0)).toArray m).toList = List.replicate m (.int .i64 0) := by
  apply List.ext_getElem
  · simp [madeCells]
  · intro i h1 h2
    have := Nat.mod_lt i hk
    simp [madeCells, this]
/-- 'make([]T, n)'. -/
theorem wp_mkF {P : Program} {W : World} {ops : Array Oper} {rest : List Oper} {o : Oper} {a : Act} {Q : Exit → Act → World → Prop} (hg : o.guard = none) (l c : Operand) (t : TypeId) (hop : o.op = Op.makeSlice t l c)
    (base : Nat) (e : TypeId) (k : Nat) (i : TypeInfo) (z : Value) (h1 : P.underlying t = some (.slice e)) (h2 : P.info? e = some i) (h3 : i.zero = some z) (h4 : i.size = k) (h5 : i.bytes = 8 * k) (hk : 0 < k) (hk3 : k ≤ 4) (hzc : z.cells = (List.replicate k (Value.int .i64 0)).toArray)
    (kl kc : IntKind) (L C : Int) (n : Nat) (hl : a.eval l = .int kl L) (hc : a.eval c = .int kc C) (hL : L = (n : Int)) (hC : C = (n : Int)) (hn : n ≤ 3000000000) (hB : base ≤ W.heap.size)
    (h : ∀ w', OwnF w' base e k (.slice (some ⟨W.heap.size, 0, none⟩) n n) n (List.replicate (n * k) 0) → Below base W w' → wpList P ops Q rest (a.put o.dst (.slice (some ⟨W.heap.size, 0, none⟩) n n)) w') : wpList P ops Q (o :: rest) a W :=
  wpList_make_full W hg l c t hop base e i z k h1 h2 h3 h4 kl kc L C n hl hc hL hC (by rw [h5]; have := Nat.mul_le_mul (show 8 * k ≤ 32 by omega) (show n ≤ 3000000000 by omega); omega) (by unfold maxLen; omega) hB fun w' g1 g2 =>
    h w' (by
      unfold OwnF
      rw [List.map_replicate, ← made_zero k (n * k) hk, ← hzc]
      exact g1) ((Below.refl _ _).grown g2 hB fun _ h => by cases h)
/-- 'append(out, src...)' on a row of the call's own: the source lies at b, o. -/
theorem wp_appSF {P : Program} {W : World} {ops : Array Oper} {rest : List Oper} {o : Oper} {a : Act} {Q : Exit → Act → World → Prop} (hgd : o.guard = none) (s x : Operand) (t : TypeId)
    (ho : o.op = .call { callee := .builtin .append, args := #[s, x], argTypes := #[t, t] })
    (base : Nat) (e : TypeId) (k : Nat) (i : TypeInfo) (z : Value) (ht : P.underlying t = some (.slice e)) (hi : P.info? e = some i) (hz : i.zero = some z) (hsize : i.size = k) (hby : i.bytes = 8 * k) (hk : 0 < k) (hk3 : k ≤ 4) (hzs : z.cells.size = k)
    (v : Value) (n : Nat) (zs : List Int) (hs : a.eval s = v) (hown : OwnF W base e k v n zs) (b q m c : Nat) (ys : List Int) (hys : ys.length = m * k) (hx : a.eval x = .slice (some ⟨b, q, none⟩) m c)
    (hcells : ∀ j z, ys[j]? = some z → W.cell? ⟨b, q + j, none⟩ = some (.int .i64 z)) (hn : n + m ≤ 3000000000) (hbase : base ≤ W.heap.size)
    (h : ∀ v' w', OwnF w' base e k v' (n + m) (zs ++ ys) → Below base W w' → W.grownBy w' v.ownBlock → wpList P ops Q rest (a.put o.dst v') w') : wpList P ops Q (o :: rest) a W := by
  refine wpList_append_own _ hgd s x t ho base e i z k (8 * k) ht hi hz hsize hby hzs (by omega) v n _ hs hown ⟨b, q, none⟩ m c (ys.map (Value.int .i64)) hx (by simp [hys])
    (fun j u hj => ?_) (fun u hu => ?_) (by unfold maxLen; omega) ?_ hbase fun v' w' h1 h2 _ => ?_
  · rw [List.getElem?_map] at hj
    cases hy : ys[j]? with
    | none => rw [hy] at hj; cases hj
    | some y =>
      rw [hy] at hj
      cases hj
      rw [Addr.add_lit]
      exact hcells j y hy
  · simp at hu
    obtain ⟨y, _, rfl⟩ := hu
    rfl
  · have := Nat.mul_le_mul (show n + m ≤ 3000000000 by omega) (show 8 * k ≤ 32 by omega)
    omega
  · refine h v' w' ?_ ((Below.refl _ _).grown h2 hbase fun k hk => ((OwnF.lt hown) k hk).1) h2
    unfold OwnF
    rw [List.map_append]
    exact h1
theorem RdF.cells {w : World} {B k n b o : Nat} {zs : List Int} (h : RdF w B k (some ⟨b, o, none⟩) n zs) (hk : 0 < n) : ∀ j z, zs[j]? = some z → w.cell? ⟨b, o + j, none⟩ = some (.int .i64 z) := by
  obtain ⟨b', o', e, _, hc⟩ := h.2.2 hk
  cases e
  exact hc
end Go.Proofs.YtkblommonimpfaaDoor
