/- Slices of strings: one that reads as a list of strings, one that the call owns. No program is named here. -/
import Derived.Test.YtkblommonimpfaaDoorBase
namespace Go.Proofs.YtkblommonimpfaaDoor
open Go.RowKit
/-- The slice of first cell A and length n reads as the strings zs; its cells lie below block B. -/
def RdS (w : World) (B : Nat) (A : Option Addr) (n : Nat) (zs : List ByteArray) : Prop :=
  zs.length = n ∧ n ≤ maxLen ∧ (0 < n → ∃ ad, A = some ad ∧ ad.block < B ∧ ∀ i z, zs[i]? = some z → w.cell? (ad.add i) = some (.string z))
/-- The slice value v of n elements owns a row (from block B on) that holds the strings zs. -/
def OwnS (w : World) (B : Nat) (E : TypeId) (v : Value) (n : Nat) (zs : List ByteArray) : Prop := w.ownsRow B E 1 v n (zs.map Value.string)
def RetOwnS (E : TypeId) (ys : List ByteArray) (w : World) (e : Ending) (w' : World) : Prop := ∃ A n c, e = .returned (.slice A n c) ∧ OwnS w' w.heap.size E (.slice A n c) n ys ∧ Below w.heap.size w w'
section
variable {w w' : World} {B B' n k : Nat} {A : Option Addr} {zs : List ByteArray}
theorem RdS.len (h : RdS w B A n zs) : zs.length = n := h.1
theorem RdS.le (h : RdS w B A n zs) : n ≤ 9223372036854775807 := by have := h.2.1; unfold maxLen at this; omega
theorem RdS.at_ (h : RdS w B A n zs) (hk : k < n) : ∃ ad, A = some ad ∧ ad.block < B ∧ w.cell? (ad.add k) = some (.string (zs.getD k ⟨#[]⟩)) := by
  obtain ⟨ad, e, hb, hc⟩ := h.2.2 (by omega)
  refine ⟨ad, e, hb, hc k _ ?_⟩
  have := h.1
  simp [List.getD, List.getElem?_eq_getElem (show k < zs.length by omega)]
theorem RdS.keep (h : RdS w B A n zs) (hk : ∀ p : Addr, p.block < B → w'.cell? p = w.cell? p) : RdS w' B A n zs :=
  ⟨h.1, h.2.1, fun hn => by
    obtain ⟨ad, e, hb, hc⟩ := h.2.2 hn
    exact ⟨ad, e, hb, fun i z hz => (hk _ (by rw [blk_add]; exact hb)).trans (hc i z hz)⟩⟩
theorem RdS.more (h : RdS w B A n zs) (hB : B ≤ B') : RdS w B' A n zs :=
  ⟨h.1, h.2.1, fun hn => by
    obtain ⟨ad, e, hb, hc⟩ := h.2.2 hn
    exact ⟨ad, e, by omega, hc⟩⟩
theorem RdS.below (h : RdS w B A n zs) (hb : Below B w w') : RdS w' B A n zs := h.keep fun _ hp => hb.cell hp
theorem RdS.go (h : RdS w B A n zs) (hb : Below w.heap.size w w') (hB : B ≤ w.heap.size) : RdS w' B A n zs := h.below (hb.mono hB)
theorem RdS.drewN (h : RdS w B A n zs) (k : Nat) : RdS (w.drewN k) B A n zs := h
/-- The first k of them. -/
theorem RdS.pre (h : RdS w B A n zs) (hk : k ≤ n) : RdS w B A k (zs.take k) :=
  ⟨by rw [List.length_take, h.1]; omega, Nat.le_trans hk h.2.1, fun hn => by
    obtain ⟨ad, e, hb, hc⟩ := h.2.2 (by omega)
    refine ⟨ad, e, hb, fun i z hz => hc i z ?_⟩
    rw [List.getElem?_take] at hz
    split at hz
    · exact hz
    · cases hz⟩
theorem RdS.of_own {base : Nat} {e : TypeId} {c : Nat} (h : w.ownsRow base e 1 (.slice A n c) n (zs.map Value.string)) : RdS w w.heap.size A n zs := by
  have hl : zs.length = n := by simpa using h.1
  rcases h.2 with ⟨hv, h0⟩ | ⟨g, cap, cur, hv, _, hg, hnc, hcm, _⟩
  · subst h0
    exact ⟨hl, Nat.zero_le _, fun hn => absurd hn (by omega)⟩
  · refine ⟨hl, by omega, fun _ => ⟨⟨g, 0, none⟩, ?_, (Array.getElem?_eq_some_iff.1 hg).1, fun i z hz => h.cells (g := g) (by rw [hv]; rfl) i _ (by simp [hz])⟩⟩
    injection hv
/-- Strings that have just been laid in a block of their own. -/
theorem RdS.lit (w : World) (zs : List ByteArray) (t : TypeId) (hm : zs.length ≤ maxLen) : RdS (w.alloc (.cells (zs.map Value.string).toArray t)) (w.heap.size + 1) (some ⟨w.heap.size, 0, none⟩) zs.length zs :=
  ⟨rfl, hm, fun _ => ⟨_, rfl, by simp, fun i z hz => by
    rw [Addr.add_lit, cell_of_row _ _ _ _ _ _ (heap_alloc_new w _)]
    simp [hz]⟩⟩
end
section
variable {w w' : World} {B B' n : Nat} {E : TypeId} {v : Value} {A : Option Addr} {c : Nat} {zs : List ByteArray}
theorem OwnS.len (h : OwnS w B E v n zs) : zs.length = n := by have := h.1; simpa using this
theorem OwnS.nil (w : World) (B : Nat) (E : TypeId) : OwnS w B E (.slice none 0 0) 0 [] := World.ownsRow_nil w B E 1
theorem OwnS.shape (h : OwnS w B E v n zs) : ∃ A c, v = .slice A n c := by
  rcases h.2 with ⟨hv, h0⟩ | ⟨g, cap, cur, hv, _⟩
  · exact ⟨none, 0, by rw [hv, h0]⟩
  · exact ⟨_, cap, hv⟩
theorem OwnS.rd (h : OwnS w B E (.slice A n c) n zs) : RdS w w.heap.size A n zs := RdS.of_own h
theorem OwnS.le (h : OwnS w B E (.slice A n c) n zs) : n ≤ 9223372036854775807 := h.rd.le
theorem OwnS.more (h : OwnS w B E v n zs) (hB : B' ≤ B) : OwnS w B' E v n zs := by
  refine ⟨h.1, ?_⟩
  rcases h.2 with h2 | ⟨g, cap, cur, hv, hg, r⟩
  · exact .inl h2
  · exact .inr ⟨g, cap, cur, hv, by omega, r⟩
theorem OwnS.new (h : OwnS w B E v n zs) (o : Obj) : OwnS (w.alloc o) B E v n zs := World.ownsRow.alloc h o
theorem OwnS.drewN (h : OwnS w B E v n zs) (k : Nat) : OwnS (w.drewN k) B E v n zs := h
theorem OwnS.lt (h : OwnS w B E v n zs) : ∀ k, v.ownBlock = some k → B ≤ k ∧ k < w.heap.size := World.ownsRow.lt h
theorem OwnS.go (h : OwnS w B E v n zs) (hb : Below w.heap.size w w') : OwnS w' B E v n zs := by
  refine ⟨h.1, ?_⟩
  rcases h.2 with h2 | ⟨g, cap, cur, hv, hg, hh, r⟩
  · exact .inl h2
  · exact .inr ⟨g, cap, cur, hv, hg, (hb.block g (Array.getElem?_eq_some_iff.1 hh).1).trans hh, r⟩
theorem OwnS.head (h : OwnS w B E (.slice A n c) n zs) (hn : 0 < n) : ∃ g, A = some ⟨g, 0, none⟩ := by
  rcases h.2 with ⟨_, h0⟩ | ⟨g, cap, cur, hv, _⟩
  · omega
  · injection hv with h1
    exact ⟨g, h1⟩
theorem OwnS.capAt (h : OwnS w B E (.slice A n c) n zs) : n ≤ c := by
  rcases h.2 with ⟨hv, h0⟩ | ⟨g', cap', cur, hv, _, hg, hnc, hcm, _⟩
  · omega
  · cases hv
    exact hnc
/-- '[]string{}': an empty slice in a block of its own. -/
theorem OwnS.empty (w : World) (E : TypeId) (hB : B ≤ w.heap.size) : OwnS (w.alloc (.cells #[] E)) B E (.slice (some ⟨w.heap.size, 0, none⟩) 0 0) 0 [] :=
  World.ownsRow_lit (size := 1) (base := B) (e := E) w #[] 0 hB (by simp [maxLen]) rfl
theorem retOwnS_mk (h : OwnS w' w.heap.size E v n zs) (hb : Below w.heap.size w w') : RetOwnS E zs w (.returned v) w' := by
  obtain ⟨A, c, rfl⟩ := h.shape
  exact ⟨A, n, c, rfl, h, hb⟩
end
/-- 'out = append(out, z)' on a row of strings of the call's own: z has just been laid in a block of its own. -/
theorem wp_appStr {P : Program} {W : World} {ops : Array Oper} {rest : List Oper} {o : Oper} {a : Act} {Q : Exit → Act → World → Prop} (hgd : o.guard = none) (s x : Operand) (t : TypeId)
    (ho : o.op = .call { callee := .builtin .append, args := #[s, x], argTypes := #[t, t] })
    (base : Nat) (e : TypeId) (i : TypeInfo) (ht : P.underlying t = some (.slice e)) (hi : P.info? e = some i) (hz : i.zero = some (.string ByteArray.empty)) (hsize : i.size = 1) (hby : i.bytes = 16)
    (v : Value) (n : Nat) (zs : List ByteArray) (hs : a.eval s = v) (hown : OwnS W base e v n zs) (z : ByteArray) (hx : a.eval x = .slice (some ⟨W.heap.size, 0, none⟩) 1 1)
    (hn : n ≤ 4000000000000) (hbase : base ≤ W.heap.size)
    (h : ∀ v' w', OwnS w' base e v' (n + 1) (zs ++ [z]) → Below base W w' → wpList P ops Q rest (a.put o.dst v') w') : wpList P ops Q (o :: rest) a (W.alloc (.cells #[.string z] e)) := by
  refine wpList_append_own _ hgd s x t ho base e i (.string ByteArray.empty) 1 16 ht hi hz hsize hby rfl (by decide) v n _ hs (World.ownsRow.alloc hown _) ⟨W.heap.size, 0, none⟩ 1 1 [.string z] hx rfl
    (cell_one_new _ _ _) (fun u hu => by simp at hu; subst hu; rfl) (by unfold maxLen; omega) (by omega) (by simp; omega) fun v' w' h1 h2 _ => ?_
  have g : W.grownBy w' v.ownBlock := ⟨h2.os, h2.tape, h2.output, Nat.le_trans (by simp) h2.size, fun k hk hne => (h2.block k (by simp; omega) hne).trans (Below.heap_alloc W _ k hk)⟩
  refine h v' w' ?_ ((Below.refl _ _).grown g hbase fun k hk => ((OwnS.lt hown) k hk).1)
  have : (zs.map Value.string) ++ [.string z] = (zs ++ [z]).map Value.string := by simp
  unfold OwnS
  rw [← this]
  exact h1
/-- 'out = append(out, ys...)' of strings that read somewhere. -/
theorem wp_appStrs {P : Program} {W : World} {ops : Array Oper} {rest : List Oper} {o : Oper} {a : Act} {Q : Exit → Act → World → Prop} (hgd : o.guard = none) (s x : Operand) (t : TypeId)
    (ho : o.op = .call { callee := .builtin .append, args := #[s, x], argTypes := #[t, t] })
    (base : Nat) (e : TypeId) (i : TypeInfo) (ht : P.underlying t = some (.slice e)) (hi : P.info? e = some i) (hz : i.zero = some (.string ByteArray.empty)) (hsize : i.size = 1) (hby : i.bytes = 16)
    (v : Value) (n : Nat) (zs : List ByteArray) (hs : a.eval s = v) (hown : OwnS W base e v n zs) (ad : Addr) (m c : Nat) (ys : List ByteArray) (hys : ys.length = m) (hx : a.eval x = .slice (some ad) m c)
    (hcells : ∀ j z, ys[j]? = some z → W.cell? (ad.add j) = some (.string z)) (hn : n + m ≤ 4000000000000) (hbase : base ≤ W.heap.size)
    (h : ∀ v' w', OwnS w' base e v' (n + m) (zs ++ ys) → Below base W w' → wpList P ops Q rest (a.put o.dst v') w') : wpList P ops Q (o :: rest) a W := by
  refine wpList_append_own _ hgd s x t ho base e i (.string ByteArray.empty) 1 16 ht hi hz hsize hby rfl (by decide) v n _ hs hown ad m c (ys.map Value.string) hx (by simp [hys])
    (fun j u hj => ?_) (fun u hu => ?_) (by unfold maxLen; omega) (by omega) hbase fun v' w' h1 h2 _ => ?_
  · rw [List.getElem?_map] at hj
    cases hy : ys[j]? with
    | none => rw [hy] at hj; cases hj
    | some y =>
      rw [hy] at hj
      cases hj
      exact hcells j y hy
  · simp at hu
    obtain ⟨y, _, rfl⟩ := hu
    rfl
  · refine h v' w' ?_ ((Below.refl _ _).grown h2 hbase fun k hk => ((OwnS.lt hown) k hk).1)
    unfold OwnS
    rw [List.map_append]
    exact h1
end Go.Proofs.YtkblommonimpfaaDoor
