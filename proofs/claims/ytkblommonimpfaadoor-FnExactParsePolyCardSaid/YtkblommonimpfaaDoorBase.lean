/- Words on memory that all walks of this seat share: a slice that reads as a list of integers, a slice that the call owns; small steps. No program is named here. -/
import Derived.WalkKit
import Derived.WalkSpells
import Derived.WalkLawsBesides
import Derived.WalkSmall
import Derived.Lib.Hide
import Derived.Deep.QuietTactic
import Derived.BigQuiet
import Derived.Laws.OwnMore
namespace Go.Proofs.YtkblommonimpfaaDoor
open Go.RowKit

/- Endings -/
theorem retB {a b : Bool} (h : a = b) : Ending.returned (.bool a) = .returned (.bool b) := by rw [h]
theorem retI {a b : Int} (h : a = b) : Ending.returned (.int .i64 a) = .returned (.int .i64 b) := by rw [h]
theorem retIB {a b : Int} {x y : Bool} (h : a = b) (k : x = y) : Ending.returned (.tuple #[.int .i64 a, .bool x]) = .returned (.tuple #[.int .i64 b, .bool y]) := by rw [h, k]
theorem retBB {a b x y : Bool} (h : a = b) (k : x = y) : Ending.returned (.tuple #[.bool a, .bool x]) = .returned (.tuple #[.bool b, .bool y]) := by rw [h, k]

/- Below -/
theorem bel_size {B : Nat} {w w' : World} (h : Below B w w') : w.heap.size ≤ w'.heap.size := h.size
theorem bel_new (w : World) (o : Obj) : Below w.heap.size w (w.alloc o) := (Below.refl _ _).alloc (Nat.le_refl _) _
theorem bel_alloc {w a : World} (h : Below w.heap.size w a) (o : Obj) : Below w.heap.size w (a.alloc o) := h.alloc h.size o
theorem bel_trans {a b c : World} (h : Below a.heap.size a b) (k : Below b.heap.size b c) : Below a.heap.size a c := h.trans (k.mono h.size)
theorem bel_of_grown {w w' : World} {row : Option Nat} (h : w.grownBy w' row) (B : Nat) (hB : B ≤ w.heap.size) (hr : ∀ g, row = some g → B ≤ g) : Below B w w' :=
  (Below.refl _ _).grown h hB hr

/-- Behind a call that turned nothing old each old cell reads as before, and bears its old mark. -/
theorem bel_cells {a b : World} (h : Below a.heap.size a b) : (∀ k o, k < a.heap.size → b.cell? ⟨k, o, none⟩ = a.cell? ⟨k, o, none⟩) ∧ (∀ k o, k < a.heap.size → b.frozen? ⟨k, o, none⟩ = a.frozen? ⟨k, o, none⟩) :=
  ⟨fun k o hk => h.cell (p := ⟨k, o, none⟩) hk, fun k o hk => h.frozen (p := ⟨k, o, none⟩) hk⟩

/-- Block k begins with the cells cs; none of its cells is frozen. -/
def Bx (w : World) (k : Nat) (cs : List Value) : Prop := k < w.heap.size ∧ (∀ o v, cs[o]? = some v → w.cell? ⟨k, o, none⟩ = some v) ∧ ∀ o, w.frozen? ⟨k, o, none⟩ = false
theorem Bx.new (w : World) (cs : List Value) (t : TypeId) : Bx (w.alloc (.cells cs.toArray t)) w.heap.size cs :=
  ⟨by simp, fun o v h => by rw [cell_of_row _ _ _ _ _ _ (heap_alloc_new w _)]; simpa using h, fun o => frozen_of_row _ _ _ _ _ (heap_alloc_new w _)⟩
theorem Bx.go {a b : World} {k : Nat} {cs : List Value} (h : Bx a k cs) (hb : Below a.heap.size a b) : Bx b k cs :=
  ⟨Nat.lt_of_lt_of_le h.1 hb.size, fun o v hv => (hb.cell (p := ⟨k, o, none⟩) h.1).trans (h.2.1 o v hv), fun o => (hb.frozen (p := ⟨k, o, none⟩) h.1).trans (h.2.2 o)⟩
theorem Bx.alloc {a : World} {k : Nat} {cs : List Value} (h : Bx a k cs) (o : Obj) : Bx (a.alloc o) k cs := h.go (bel_new a o)
theorem Bx.drew {a : World} {k : Nat} {cs : List Value} (h : Bx a k cs) : Bx a.drew k cs := h
theorem Bx.set_ {a : World} {k : Nat} {cs : List Value} (h : Bx a k cs) {p : Addr} (hp : p.block ≠ k) (u : Value) : Bx (a.setCell p u) k cs :=
  ⟨by have := h.1; simpa [World.setCell] using this, fun o v hv => (World.cell?_of_block (Below.heap_setCell a p u k (Ne.symm hp))).trans (h.2.1 o v hv), fun o => (World.frozen?_of_block (Below.heap_setCell a p u k (Ne.symm hp))).trans (h.2.2 o)⟩
section
variable {w : World} {k : Nat} {x y z : Value} {cs : List Value}
theorem Bx.at0 (h : Bx w k (x :: cs)) : w.cell? ⟨k, 0, none⟩ = some x := h.2.1 0 x rfl
theorem Bx.at1 (h : Bx w k (x :: y :: cs)) : w.cell? ⟨k, 1, none⟩ = some y := h.2.1 1 y rfl
theorem Bx.at2 (h : Bx w k (x :: y :: z :: cs)) : w.cell? ⟨k, 2, none⟩ = some z := h.2.1 2 z rfl
theorem Bx.at3 {u : Value} (h : Bx w k (x :: y :: z :: u :: cs)) : w.cell? ⟨k, 3, none⟩ = some u := h.2.1 3 u rfl
theorem Bx.fz (h : Bx w k cs) (o : Nat) : w.frozen? ⟨k, o, none⟩ = false := h.2.2 o
end
theorem bx2 (w : World) (a b : List Value) (s t : TypeId) : Bx ((w.alloc (.cells a.toArray s)).alloc (.cells b.toArray t)) w.heap.size a ∧ Bx ((w.alloc (.cells a.toArray s)).alloc (.cells b.toArray t)) (w.heap.size + 1) b :=
  ⟨(Bx.new w a s).alloc _, by have := Bx.new (w.alloc (.cells a.toArray s)) b t; rwa [World.size_alloc] at this⟩
theorem bx3 (w : World) (a b c : List Value) (s t u : TypeId) :
    Bx (((w.alloc (.cells a.toArray s)).alloc (.cells b.toArray t)).alloc (.cells c.toArray u)) w.heap.size a ∧ Bx (((w.alloc (.cells a.toArray s)).alloc (.cells b.toArray t)).alloc (.cells c.toArray u)) (w.heap.size + 1) b ∧
      Bx (((w.alloc (.cells a.toArray s)).alloc (.cells b.toArray t)).alloc (.cells c.toArray u)) (w.heap.size + 2) c := by
  refine ⟨(bx2 w a b s t).1.alloc _, (bx2 w a b s t).2.alloc _, ?_⟩
  have := Bx.new ((w.alloc (.cells a.toArray s)).alloc (.cells b.toArray t)) c u
  rwa [World.size_alloc, World.size_alloc] at this
theorem keep4 {w : World} {j k : Nat} {x y z u : Value} (p : Bx w j [x, y]) (q : Bx w k [z, u]) : w.cell? ⟨j, 0, none⟩ = some x ∧ w.cell? ⟨j, 1, none⟩ = some y ∧ w.cell? ⟨k, 0, none⟩ = some z ∧ w.cell? ⟨k, 1, none⟩ = some u :=
  ⟨p.at0, p.at1, q.at0, q.at1⟩
theorem bel_set {w a : World} (h : Below w.heap.size w a) {p : Addr} (hp : w.heap.size ≤ p.block) (u : Value) : Below w.heap.size w (a.setCell p u) := h.setCell hp u

/- Slices that read as integers -/
/-- The slice of first cell A and length n reads as the integers zs; its cells lie below block B. -/
def Rd (w : World) (B : Nat) (A : Option Addr) (n : Nat) (zs : List Int) : Prop :=
  zs.length = n ∧ n ≤ maxLen ∧ (0 < n → ∃ ad, A = some ad ∧ ad.block < B ∧ ∀ i z, zs[i]? = some z → w.cell? (ad.add i) = some (.int .i64 z))

theorem ad_add0 (a : Addr) : a.add 0 = a := by simp [Addr.add]
theorem blk_add (a : Addr) (n : Nat) : (a.add n).block = a.block := by unfold Addr.add; split <;> rfl

section
variable {w w' : World} {B B' n k : Nat} {A : Option Addr} {zs : List Int}
theorem Rd.len (h : Rd w B A n zs) : zs.length = n := h.1
theorem Rd.le (h : Rd w B A n zs) : n ≤ 9223372036854775807 := by have := h.2.1; unfold maxLen at this; omega
theorem Rd.none_ : Rd w B A 0 [] := ⟨rfl, Nat.zero_le _, fun h => absurd h (by omega)⟩
theorem Rd.at_ (h : Rd w B A n zs) (hk : k < n) : ∃ ad, A = some ad ∧ ad.block < B ∧ w.cell? (ad.add k) = some (.int .i64 (zs.getD k 0)) := by
  obtain ⟨ad, e, hb, hc⟩ := h.2.2 (by omega)
  refine ⟨ad, e, hb, hc k _ ?_⟩
  have := h.1
  simp [List.getD, List.getElem?_eq_getElem (show k < zs.length by omega)]
theorem Rd.keep (h : Rd w B A n zs) (hk : ∀ p : Addr, p.block < B → w'.cell? p = w.cell? p) : Rd w' B A n zs :=
  ⟨h.1, h.2.1, fun hn => by
    obtain ⟨ad, e, hb, hc⟩ := h.2.2 hn
    exact ⟨ad, e, hb, fun i z hz => (hk _ (by rw [blk_add]; exact hb)).trans (hc i z hz)⟩⟩
theorem Rd.more (h : Rd w B A n zs) (hB : B ≤ B') : Rd w B' A n zs :=
  ⟨h.1, h.2.1, fun hn => by
    obtain ⟨ad, e, hb, hc⟩ := h.2.2 hn
    exact ⟨ad, e, by omega, hc⟩⟩
theorem Rd.below (h : Rd w B A n zs) (hb : Below B w w') : Rd w' B A n zs := h.keep fun _ hp => hb.cell hp
/-- Behind a call that turned nothing old. -/
theorem Rd.go (h : Rd w B A n zs) (hb : Below w.heap.size w w') (hB : B ≤ w.heap.size) : Rd w' B A n zs := h.below (hb.mono hB)
theorem Rd.new (h : Rd w B A n zs) (hB : B ≤ w.heap.size) (o : Obj) : Rd (w.alloc o) B A n zs := h.go (bel_new w o) hB
theorem Rd.drewN (h : Rd w B A n zs) (k : Nat) : Rd (w.drewN k) B A n zs := h
/-- A list of integers that has just been laid in a block of its own. -/
theorem Rd.lit (w : World) (zs : List Int) (t : TypeId) (hm : zs.length ≤ maxLen) : Rd (w.alloc (.cells (zs.map (Value.int .i64)).toArray t)) (w.heap.size + 1) (some ⟨w.heap.size, 0, none⟩) zs.length zs :=
  ⟨rfl, hm, fun _ => ⟨_, rfl, by simp, fun i z hz => by
    rw [Addr.add_lit, cell_of_row _ _ _ _ _ _ (heap_alloc_new w _)]
    simp [hz]⟩⟩
theorem Rd.of_own {base : Nat} {e : TypeId} {c : Nat} (h : w.ownsRow base e 1 (.slice A n c) n (zs.map (Value.int .i64))) : Rd w w.heap.size A n zs := by
  have hl : zs.length = n := by simpa using h.1
  rcases h.2 with ⟨hv, h0⟩ | ⟨g, cap, cur, hv, _, hg, hnc, hcm, _⟩
  · subst h0
    exact ⟨hl, Nat.zero_le _, fun hn => absurd hn (by omega)⟩
  · refine ⟨hl, by omega, fun _ => ⟨⟨g, 0, none⟩, ?_, (Array.getElem?_eq_some_iff.1 hg).1, fun i z hz => h.cells (g := g) (by rw [hv]; rfl) i _ (by simp [hz])⟩⟩
    injection hv
end

theorem grown_trans {a b c : World} {row : Option Nat} (h : a.grownBy b row) (k : b.grownBy c row) : a.grownBy c row :=
  ⟨k.os.trans h.os, k.tape.trans h.tape, k.output.trans h.output, Nat.le_trans h.size k.size, fun i hi hn => (k.block i (Nat.lt_of_lt_of_le hi h.size) hn).trans (h.block i hi hn)⟩
/- Slices that the call owns -/
/-- The slice value v of n elements owns a row (from block B on) that holds the integers zs. -/
def Own (w : World) (B : Nat) (E : TypeId) (v : Value) (n : Nat) (zs : List Int) : Prop := w.ownsRow B E 1 v n (zs.map (Value.int .i64))
/-- A call that hands back one slice in memory of its own, reading ys; nothing old has turned. -/
def RetOwn (E : TypeId) (ys : List Int) (w : World) (e : Ending) (w' : World) : Prop := ∃ A n c, e = .returned (.slice A n c) ∧ Own w' w.heap.size E (.slice A n c) n ys ∧ Below w.heap.size w w' ∧ n ≤ 17592186040000
/-- The same with a bool behind it. -/
def RetOwnB (E : TypeId) (ys : List Int) (ok : Bool) (w : World) (e : Ending) (w' : World) : Prop := ∃ A n c, e = .returned (.tuple #[.slice A n c, .bool ok]) ∧ Own w' w.heap.size E (.slice A n c) n ys ∧ Below w.heap.size w w' ∧ n ≤ 17592186040000

section
variable {w w' : World} {B B' n : Nat} {E : TypeId} {v : Value} {A : Option Addr} {c : Nat} {zs : List Int}
theorem Own.len (h : Own w B E v n zs) : zs.length = n := by have := h.1; simpa using this
theorem Own.nil (w : World) (B : Nat) (E : TypeId) : Own w B E (.slice none 0 0) 0 [] := World.ownsRow_nil w B E 1
theorem Own.shape (h : Own w B E v n zs) : ∃ A c, v = .slice A n c := by
  rcases h.2 with ⟨hv, h0⟩ | ⟨g, cap, cur, hv, _⟩
  · exact ⟨none, 0, by rw [hv, h0]⟩
  · exact ⟨_, cap, hv⟩
theorem Own.rd (h : Own w B E (.slice A n c) n zs) : Rd w w.heap.size A n zs := Rd.of_own h
theorem Own.le (h : Own w B E (.slice A n c) n zs) : n ≤ 9223372036854775807 := h.rd.le
theorem Own.more (h : Own w B E v n zs) (hB : B' ≤ B) : Own w B' E v n zs := by
  refine ⟨h.1, ?_⟩
  rcases h.2 with h2 | ⟨g, cap, cur, hv, hg, r⟩
  · exact .inl h2
  · exact .inr ⟨g, cap, cur, hv, by omega, r⟩
theorem Own.new (h : Own w B E v n zs) (o : Obj) : Own (w.alloc o) B E v n zs := World.ownsRow.alloc h o
theorem Own.drewN (h : Own w B E v n zs) (k : Nat) : Own (w.drewN k) B E v n zs := h
theorem Own.lt (h : Own w B E v n zs) : ∀ k, v.ownBlock = some k → B ≤ k ∧ k < w.heap.size := World.ownsRow.lt h
theorem Own.kept {row : Option Nat} (h : Own w B E v n zs) (hg : w.grownBy w' row) (hne : v.ownBlock = none ∨ v.ownBlock ≠ row) : Own w' B E v n zs := World.ownsRow.kept h hg hne
/-- Behind a call that turned nothing old. -/
theorem Own.go (h : Own w B E v n zs) (hb : Below w.heap.size w w') : Own w' B E v n zs := by
  refine ⟨h.1, ?_⟩
  rcases h.2 with h2 | ⟨g, cap, cur, hv, hg, hh, r⟩
  · exact .inl h2
  · exact .inr ⟨g, cap, cur, hv, hg, (hb.block g (Array.getElem?_eq_some_iff.1 hh).1).trans hh, r⟩
theorem own_eq {zs' : List Int} (h : Own w B E v n zs) (e : zs = zs') : Own w B E v n zs' := e ▸ h
theorem Own.head (h : Own w B E (.slice A n c) n zs) (hn : 0 < n) : ∃ g, A = some ⟨g, 0, none⟩ := by
  rcases h.2 with ⟨_, h0⟩ | ⟨g, cap, cur, hv, _⟩
  · omega
  · injection hv with h1
    exact ⟨g, h1⟩
section
variable {g : Nat}
theorem Own.frozenAt (h : Own w B E (.slice (some ⟨g, 0, none⟩) n c) n zs) (j : Nat) : w.frozen? ⟨g, j, none⟩ = false := World.ownsRow.frozenAt h j
theorem Own.cellAt (h : Own w B E (.slice (some ⟨g, 0, none⟩) n c) n zs) (j : Nat) (hj : j < n) : ∃ u, w.cell? ⟨g, j, none⟩ = some u := by
  rw [World.ownsRow.cellAt h j (by omega)]
  exact ⟨_, List.getElem?_eq_getElem (by have := h.1; omega)⟩
theorem Own.set_ (h : Own w B E (.slice (some ⟨g, 0, none⟩) n c) n zs) (j : Nat) (z : Int) : Own (w.setCell ⟨g, j, none⟩ (.int .i64 z)) B E (.slice (some ⟨g, 0, none⟩) n c) n (zs.set j z) := by
  have := (World.ownsRow.stored h j (.int .i64 z)).1
  unfold Own
  rwa [List.map_set]
theorem Own.set_grown (h : Own w B E (.slice (some ⟨g, 0, none⟩) n c) n zs) (j : Nat) (z : Int) : w.grownBy (w.setCell ⟨g, j, none⟩ (.int .i64 z)) (Value.slice (some ⟨g, 0, none⟩) n c).ownBlock :=
  (World.ownsRow.stored h j (.int .i64 z)).2
end
theorem retOwn_mk (h : Own w' w.heap.size E v n zs) (hb : Below w.heap.size w w') (hn : n ≤ 17592186040000) : RetOwn E zs w (.returned v) w' := by
  obtain ⟨A, c, rfl⟩ := h.shape
  exact ⟨A, n, c, rfl, h, hb, hn⟩
theorem retOwnB_mk {ok : Bool} (h : Own w' w.heap.size E v n zs) (hb : Below w.heap.size w w') (hn : n ≤ 17592186040000) : RetOwnB E zs ok w (.returned (.tuple #[v, .bool ok])) w' := by
  obtain ⟨A, c, rfl⟩ := h.shape
  exact ⟨A, n, c, rfl, h, hb, hn⟩
/-- One more call that turned nothing old. -/
theorem bel_step {a b : World} (h : Below w.heap.size w a) (k : Below a.heap.size a b) : Below w.heap.size w b := h.trans (k.mono h.size)
/-- Rows made one behind the other lie in different blocks. -/
theorem own_ne {a b : World} {B1 B2 n1 n2 : Nat} {E1 E2 : TypeId} {v1 v2 : Value} {xs ys : List Int} (h1 : Own a B1 E1 v1 n1 xs) (h2 : Own b B2 E2 v2 n2 ys) (h : a.heap.size ≤ B2) : v1.ownBlock = none ∨ v1.ownBlock ≠ v2.ownBlock := by
  cases e1 : v1.ownBlock with
  | none => exact .inl rfl
  | some g =>
    refine .inr fun e => ?_
    have l1 := h1.lt g e1
    have l2 := h2.lt g e.symm
    omega
theorem own_ne' {a b : World} {B1 B2 n1 n2 : Nat} {E1 E2 : TypeId} {v1 v2 : Value} {xs ys : List Int} (h1 : Own a B1 E1 v1 n1 xs) (h2 : Own b B2 E2 v2 n2 ys) (h : a.heap.size ≤ B2) : v2.ownBlock = none ∨ v2.ownBlock ≠ v1.ownBlock := by
  rcases own_ne h1 h2 h with h3 | h3
  · cases e2 : v2.ownBlock with
    | none => exact .inl rfl
    | some g => exact .inr (by rw [h3]; simp)
  · exact .inr fun e => h3 e.symm
/-- Values made one behind the other lie in different blocks. -/
theorem blk_ne {S1 S2 B1 B2 : Nat} {v1 v2 : Value} (h1 : ∀ k, v1.ownBlock = some k → B1 ≤ k ∧ k < S1) (h2 : ∀ k, v2.ownBlock = some k → B2 ≤ k ∧ k < S2) (h : S1 ≤ B2) : v1.ownBlock = none ∨ v1.ownBlock ≠ v2.ownBlock := by
  cases e1 : v1.ownBlock with
  | none => exact .inl rfl
  | some g =>
    refine .inr fun e => ?_
    have l1 := h1 g e1
    have l2 := h2 g e.symm
    omega
theorem blk_ne' {S1 S2 B1 B2 : Nat} {v1 v2 : Value} (h1 : ∀ k, v1.ownBlock = some k → B1 ≤ k ∧ k < S1) (h2 : ∀ k, v2.ownBlock = some k → B2 ≤ k ∧ k < S2) (h : S1 ≤ B2) : v2.ownBlock = none ∨ v2.ownBlock ≠ v1.ownBlock := by
  rcases blk_ne h1 h2 h with h3 | h3
  · cases e2 : v2.ownBlock with
    | none => exact .inl rfl
    | some g => exact .inr (by rw [h3]; simp)
  · exact .inr fun e => h3 e.symm
/-- '[]int{}': an empty slice in a block of its own. -/
theorem Own.empty (w : World) (E : TypeId) (hB : B ≤ w.heap.size) : Own (w.alloc (.cells #[] E)) B E (.slice (some ⟨w.heap.size, 0, none⟩) 0 0) 0 [] :=
  World.ownsRow_lit (size := 1) (base := B) (e := E) w #[] 0 hB (by simp [maxLen]) rfl
end
theorem oneCell_ints (zs : List Int) : ∀ u ∈ zs.map (Value.int .i64), u.oneCell' = true := ints_oneCell _ _

/-- 'out = append(out, z)' on a row of the call's own: z has just been laid in a block of its own. -/
theorem wp_app1 {P : Program} {W : World} {ops : Array Oper} {rest : List Oper} {o : Oper} {a : Act} {Q : Exit → Act → World → Prop} (hgd : o.guard = none) (s x : Operand) (t : TypeId)
    (ho : o.op = .call { callee := .builtin .append, args := #[s, x], argTypes := #[t, t] })
    (base : Nat) (e : TypeId) (i : TypeInfo) (ht : P.underlying t = some (.slice e)) (hi : P.info? e = some i) (hz : i.zero = some (.int .i64 0)) (hsize : i.size = 1) (hby : i.bytes = 8)
    (v : Value) (n : Nat) (zs : List Int) (hs : a.eval s = v) (hown : Own W base e v n zs) (z : Int) (hx : a.eval x = .slice (some ⟨W.heap.size, 0, none⟩) 1 1)
    (hn : n ≤ 17592186040000) (hbase : base ≤ W.heap.size)
    (h : ∀ v' w', Own w' base e v' (n + 1) (zs ++ [z]) → Below base W w' → W.grownBy w' v.ownBlock → wpList P ops Q rest (a.put o.dst v') w') : wpList P ops Q (o :: rest) a (W.alloc (.cells #[.int .i64 z] e)) := by
  refine wpList_append_own _ hgd s x t ho base e i (.int .i64 0) 1 8 ht hi hz hsize hby rfl (by decide) v n _ hs (World.ownsRow.alloc hown _) ⟨W.heap.size, 0, none⟩ 1 1 [.int .i64 z] hx rfl
    (cell_one_new _ _ _) (fun u hu => by simp at hu; subst hu; rfl) (by unfold maxLen; omega) (by omega) (by simp; omega) fun v' w' h1 h2 _ => ?_
  have g : W.grownBy w' v.ownBlock := ⟨h2.os, h2.tape, h2.output, Nat.le_trans (by simp) h2.size, fun k hk hne => (h2.block k (by simp; omega) hne).trans (Below.heap_alloc W _ k hk)⟩
  refine h v' w' ?_ ((Below.refl _ _).grown g hbase fun k hk => ((Own.lt hown) k hk).1) g
  have : (zs.map (Value.int .i64)) ++ [.int .i64 z] = (zs ++ [z]).map (Value.int .i64) := by simp
  unfold Own
  rw [← this]
  exact h1

/-- 'make([]int, 0, n)'. -/
theorem wp_mk0 {P : Program} {W : World} {ops : Array Oper} {rest : List Oper} {o : Oper} {a : Act} {Q : Exit → Act → World → Prop} (hg : o.guard = none) (l c : Operand) (t : TypeId) (hop : o.op = Op.makeSlice t l c)
    (base : Nat) (e : TypeId) (i : TypeInfo) (h1 : P.underlying t = some (.slice e)) (h2 : P.info? e = some i) (h3 : i.zero = some (.int .i64 0)) (h4 : i.size = 1) (h5 : i.bytes = 8)
    (kl kc : IntKind) (C : Int) (n : Nat) (hl : a.eval l = .int kl 0) (hc : a.eval c = .int kc C) (hC : C = (n : Int)) (hn : n ≤ 17592186040000) (hB : base ≤ W.heap.size)
    (h : ∀ w', Own w' base e (.slice (some ⟨W.heap.size, 0, none⟩) 0 n) 0 [] → Below base W w' → wpList P ops Q rest (a.put o.dst (.slice (some ⟨W.heap.size, 0, none⟩) 0 n)) w') : wpList P ops Q (o :: rest) a W :=
  wpList_make_own W hg l c t hop base e i (.int .i64 0) 1 h1 h2 h3 h4 kl kc C n hl hc hC (by rw [h5]; omega) (by unfold maxLen; omega) hB fun w' g1 g2 =>
    h w' g1 ((Below.refl _ _).grown g2 hB fun _ h => by cases h)
/-- 'make([]int, n)'. -/
theorem wp_mkn {P : Program} {W : World} {ops : Array Oper} {rest : List Oper} {o : Oper} {a : Act} {Q : Exit → Act → World → Prop} (hg : o.guard = none) (l c : Operand) (t : TypeId) (hop : o.op = Op.makeSlice t l c)
    (base : Nat) (e : TypeId) (i : TypeInfo) (h1 : P.underlying t = some (.slice e)) (h2 : P.info? e = some i) (h3 : i.zero = some (.int .i64 0)) (h4 : i.size = 1) (h5 : i.bytes = 8)
    (kl kc : IntKind) (L C : Int) (n : Nat) (hl : a.eval l = .int kl L) (hc : a.eval c = .int kc C) (hL : L = (n : Int)) (hC : C = (n : Int)) (hn : n ≤ 17592186040000) (hB : base ≤ W.heap.size)
    (h : ∀ w', Own w' base e (.slice (some ⟨W.heap.size, 0, none⟩) n n) n (List.replicate n 0) → Below base W w' → wpList P ops Q rest (a.put o.dst (.slice (some ⟨W.heap.size, 0, none⟩) n n)) w') : wpList P ops Q (o :: rest) a W :=
  wpList_make_full W hg l c t hop base e i (.int .i64 0) 1 h1 h2 h3 h4 kl kc L C n hl hc hL hC (by rw [h5]; omega) (by unfold maxLen; omega) hB fun w' g1 g2 =>
    h w' (by
      unfold Own
      rw [List.map_replicate]
      have := toList_madeCells_one (.int .i64 0) n
      rw [Nat.mul_one] at g1
      rw [← this]
      exact g1) ((Below.refl _ _).grown g2 hB fun _ h => by cases h)

/- Quiet calls -/
theorem quiet_l {P : Program} {f : FuncId} {args : Array Value} {w : World} {n : Nat} {v : Value} (h : Calls P f args (w.drewN n) fun e w' => e = .returned v ∧ w.drewN n = w') :
    Calls P f args (w.drewN n) fun e w'' => e = .returned v ∧ ∃ m, w'' = w.drewN m := h.mono fun _ _ ⟨he, hm⟩ => ⟨he, n, hm.symm⟩
theorem quiet_l2 {P : Program} {f : FuncId} {args : Array Value} {w : World} {a n : Nat} {v : Value} (h : Calls P f args (w.drewN (a + n)) fun e w' => e = .returned v ∧ w.drewN (a + n) = w') :
    Calls P f args (w.drewN (a + n)) fun e w'' => e = .returned v ∧ ∃ m, w'' = w.drewN (a + m) := h.mono fun _ _ ⟨he, hm⟩ => ⟨he, n, hm.symm⟩

/- Running through a list -/
theorem hid_take0 (p : Int → Bool) (zs : List Int) : Hid ((zs.take 0).all p = true) := Lib.hid (by simp)
theorem all_next {p : Int → Bool} {zs : List Int} {k : Nat} (h : Hid ((zs.take k).all p = true)) (hk : k < zs.length) (hp : p (zs.getD k 0) = true) : Hid ((zs.take (k + 1)).all p = true) := by
  refine Lib.hid ?_
  rw [List.take_succ_eq_append_getElem hk, List.all_append, h.out]
  simpa [List.getD, List.getElem?_eq_getElem hk] using hp
theorem all_stop {p : Int → Bool} {zs : List Int} {k : Nat} (hk : k < zs.length) (hp : p (zs.getD k 0) = false) : Hid (zs.all p = false) := by
  refine Lib.hid ?_
  rw [← Bool.not_eq_true, List.all_eq_true]
  intro hh
  have := hh (zs.getD k 0) (by simp [List.getD, List.getElem?_eq_getElem hk])
  rw [hp] at this
  cases this
theorem all_done {p : Int → Bool} {zs : List Int} {k : Nat} (h : Hid ((zs.take k).all p = true)) (hk : zs.length ≤ k) : zs.all p = true := by
  have := h.out
  rwa [List.take_of_length_le hk] at this
theorem two_le (a b : Int) : [a, b].length ≤ maxLen := by simp [maxLen]
theorem all_two {p : Int → Bool} {a b : Int} {x : Bool} (h : [a, b].all p = x) : (p a && p b) = x := by simpa using h
theorem getD_mem {zs : List Int} {k : Nat} (hk : k < zs.length) : zs.getD k 0 ∈ zs := by simp [List.getD, List.getElem?_eq_getElem hk]
theorem getD_app_l {α : Type} {l r : List α} {k : Nat} {d : α} (h : k < l.length) : (l ++ r).getD k d = l.getD k d := by simp [List.getD, List.getElem?_append_left h]
theorem getD_app_r {α : Type} {l r : List α} {k : Nat} {d : α} (h : l.length ≤ k) : (l ++ r).getD k d = r.getD (k - l.length) d := by simp [List.getD, List.getElem?_append_right h]
theorem take_next {zs : List Int} {k : Nat} (hk : k < zs.length) : zs.take (k + 1) = zs.take k ++ [zs.getD k 0] := by
  rw [List.take_succ_eq_append_getElem hk]
  simp [List.getD, List.getElem?_eq_getElem hk]
end Go.Proofs.YtkblommonimpfaaDoor
