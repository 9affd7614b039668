/- Points of two integers: the plain list, and slices of them. -/
import Derived.Test.YtfkglbmdpefigaaGreatDoorWide
namespace Go.Proofs.YtfkglbmdpefigaaGreatDoor
open Go.RowKit
/-- A point. -/
abbrev Pnt := Int × Int
def flatP (l : List Pnt) : List Int := l.flatMap fun t => [t.1, t.2]
theorem flatP_nil : flatP [] = [] := rfl
theorem flatP_cons (t : Pnt) (l : List Pnt) : flatP (t :: l) = t.1 :: t.2 :: flatP l := rfl
theorem flatP_app (l m : List Pnt) : flatP (l ++ m) = flatP l ++ flatP m := by simp [flatP]
theorem flatP_snoc (l : List Pnt) (t : Pnt) : flatP (l ++ [t]) = flatP l ++ [t.1, t.2] := by simp [flatP]
theorem flatP_len : ∀ l : List Pnt, (flatP l).length = l.length * 2
  | [] => rfl
  | t :: l => by simp only [flatP_cons, List.length_cons, flatP_len l]; omega
theorem flatP_at : ∀ (l : List Pnt) (k : Nat), k < l.length → (flatP l).getD (k * 2) 0 = (l.getD k (0, 0)).1 ∧ (flatP l).getD (k * 2 + 1) 0 = (l.getD k (0, 0)).2
  | [], k, h => by simp at h
  | t :: l, 0, _ => by simp [flatP_cons]
  | t :: l, k + 1, h => by
    have := flatP_at l k (by simpa using h)
    simp only [flatP_cons, List.getD_cons_succ]
    rw [show (k + 1) * 2 = k * 2 + 1 + 1 from by omega]
    simp only [List.getD_cons_succ]
    exact this
theorem flatP_inj : ∀ {l m : List Pnt}, flatP l = flatP m → l = m
  | [], [], _ => rfl
  | [], t :: m, h => by simp [flatP] at h
  | t :: l, [], h => by simp [flatP] at h
  | (a, b) :: l, (x, y) :: m, h => by
    simp only [flatP_cons, List.cons.injEq] at h
    obtain ⟨rfl, rfl, h⟩ := h
    rw [flatP_inj h]
/-- The slice reads as the terms l. -/
def RdP (w : World) (B : Nat) (A : Option Addr) (n : Nat) (l : List Pnt) : Prop := RdF w B 2 A n (flatP l)
section
variable {w w' : World} {B B' n : Nat} {A : Option Addr} {l : List Pnt}
theorem RdP.len (h : RdP w B A n l) : l.length = n := by have := RdF.len h; rw [flatP_len] at this; omega
theorem RdP.le (h : RdP w B A n l) : n ≤ 9223372036854775807 := RdF.le h
theorem RdP.none_ : RdP w B A 0 [] := RdF.none_
theorem RdP.below (h : RdP w B A n l) (hb : Below B w w') : RdP w' B A n l := RdF.below h hb
theorem RdP.more (h : RdP w B A n l) (hB : B ≤ B') : RdP w B' A n l := RdF.more h hB
theorem RdP.drewN (h : RdP w B A n l) (j : Nat) : RdP (w.drewN j) B A n l := h
theorem RdP.at_ (h : RdP w B A n l) {k : Nat} (hk : k < n) : ∃ b o, A = some ⟨b, o, none⟩ ∧ b < B ∧ w.cell? ⟨b, o + k * 2, none⟩ = some (.int .i64 (l.getD k (0, 0)).1) ∧ w.cell? ⟨b, o + k * 2 + 1, none⟩ = some (.int .i64 (l.getD k (0, 0)).2) := by
  obtain ⟨b, o, e, hb, hc⟩ := RdF.at_ h (by omega)
  have hl := h.len
  obtain ⟨h0, h1⟩ := flatP_at l k (by omega)
  refine ⟨b, o, e, hb, ?_, ?_⟩
  · rw [← h0]; exact hc _ (by omega)
  · rw [← h1]; exact hc (k * 2 + 1) (by omega)
end
def OwnP (w : World) (B : Nat) (E : TypeId) (v : Value) (n : Nat) (l : List Pnt) : Prop := OwnF w B E 2 v n (flatP l)
def RetP (E : TypeId) (l : List Pnt) (w : World) (e : Ending) (w' : World) : Prop := ∃ A n c, e = .returned (.slice A n c) ∧ OwnP w' w.heap.size E (.slice A n c) n l ∧ Below w.heap.size w w' ∧ n ≤ 3000000000
def RetPB (E : TypeId) (l : List Pnt) (ok : Bool) (w : World) (e : Ending) (w' : World) : Prop := ∃ A n c, e = .returned (.tuple #[.slice A n c, .bool ok]) ∧ OwnP w' w.heap.size E (.slice A n c) n l ∧ Below w.heap.size w w' ∧ n ≤ 3000000000
section
variable {w w' : World} {B B' n : Nat} {E : TypeId} {v : Value} {A : Option Addr} {c : Nat} {l : List Pnt}
theorem OwnP.len (h : OwnP w B E v n l) : l.length = n := by have := OwnF.len h; rw [flatP_len] at this; omega
theorem OwnP.nil (w : World) (B : Nat) (E : TypeId) : OwnP w B E (.slice none 0 0) 0 [] := OwnF.nil w B E 2
theorem OwnP.shape (h : OwnP w B E v n l) : ∃ A c, v = .slice A n c := OwnF.shape h
theorem OwnP.rd (h : OwnP w B E (.slice A n c) n l) : RdP w w.heap.size A n l := OwnF.rd h
theorem OwnP.le (h : OwnP w B E (.slice A n c) n l) : n ≤ 9223372036854775807 := OwnF.le h
theorem OwnP.more (h : OwnP w B E v n l) (hB : B' ≤ B) : OwnP w B' E v n l := OwnF.more h hB
theorem OwnP.new (h : OwnP w B E v n l) (o : Obj) : OwnP (w.alloc o) B E v n l := OwnF.new h o
theorem OwnP.drewN (h : OwnP w B E v n l) (j : Nat) : OwnP (w.drewN j) B E v n l := h
theorem OwnP.lt (h : OwnP w B E v n l) : ∀ j, v.ownBlock = some j → B ≤ j ∧ j < w.heap.size := OwnF.lt h
theorem OwnP.kept {row : Option Nat} (h : OwnP w B E v n l) (hg : w.grownBy w' row) (hne : v.ownBlock = none ∨ v.ownBlock ≠ row) : OwnP w' B E v n l := OwnF.kept h hg hne
theorem OwnP.go (h : OwnP w B E v n l) (hb : Below w.heap.size w w') : OwnP w' B E v n l := OwnF.go h hb
theorem ownP_eq {l' : List Pnt} (h : OwnP w B E v n l) (e : l = l') : OwnP w B E v n l' := e ▸ h
theorem OwnP.head (h : OwnP w B E (.slice A n c) n l) (hn : 0 < n) : ∃ g, A = some ⟨g, 0, none⟩ := OwnF.head h hn
theorem retP_mk (h : OwnP w' w.heap.size E v n l) (hb : Below w.heap.size w w') (hn : n ≤ 3000000000) : RetP E l w (.returned v) w' := retF_mk h hb hn
theorem retPB_mk {ok : Bool} (h : OwnP w' w.heap.size E v n l) (hb : Below w.heap.size w w') (hn : n ≤ 3000000000) : RetPB E l ok w (.returned (.tuple #[v, .bool ok])) w' := retFB_mk h hb hn
theorem OwnP.empty (w : World) (E : TypeId) (hB : B ≤ w.heap.size) : OwnP (w.alloc (.cells #[] E)) B E (.slice (some ⟨w.heap.size, 0, none⟩) 0 0) 0 [] := OwnF.empty w E 2 hB
theorem ownP_ne {a b : World} {B1 B2 n1 n2 : Nat} {E1 E2 : TypeId} {v1 v2 : Value} {xs ys : List Pnt} (h1 : OwnP a B1 E1 v1 n1 xs) (h2 : OwnP b B2 E2 v2 n2 ys) (h : a.heap.size ≤ B2) : v1.ownBlock = none ∨ v1.ownBlock ≠ v2.ownBlock := ownF_ne h1 h2 h
theorem ownP_ne' {a b : World} {B1 B2 n1 n2 : Nat} {E1 E2 : TypeId} {v1 v2 : Value} {xs ys : List Pnt} (h1 : OwnP a B1 E1 v1 n1 xs) (h2 : OwnP b B2 E2 v2 n2 ys) (h : a.heap.size ≤ B2) : v2.ownBlock = none ∨ v2.ownBlock ≠ v1.ownBlock := ownF_ne' h1 h2 h
end
/-- 'append(out, t)' for a point. -/
theorem wp_appP {P : Program} {W : World} {ops : Array Oper} {rest : List Oper} {o : Oper} {a : Act} {Q : Exit → Act → World → Prop} (hgd : o.guard = none) (s x : Operand) (t : TypeId)
    (ho : o.op = .call { callee := .builtin .append, args := #[s, x], argTypes := #[t, t] })
    (base : Nat) (e : TypeId) (i : TypeInfo) (ht : P.underlying t = some (.slice e)) (hi : P.info? e = some i) (hz : i.zero = some (.agg #[.int .i64 0, .int .i64 0])) (hsize : i.size = 2) (hby : i.bytes = 16)
    (v : Value) (n : Nat) (l : List Pnt) (hs : a.eval s = v) (hown : OwnP W base e v n l) (t0 t1 : Int) (hx : a.eval x = .slice (some ⟨W.heap.size, 0, none⟩) 1 1)
    (hn : n ≤ 3000000000) (hbase : base ≤ W.heap.size)
    (h : ∀ v' w', OwnP w' base e v' (n + 1) (l ++ [(t0, t1)]) → Below base W w' → W.grownBy w' v.ownBlock → wpList P ops Q rest (a.put o.dst v') w') : wpList P ops Q (o :: rest) a (W.alloc (.cells #[.int .i64 t0, .int .i64 t1] e)) :=
  wp_appF hgd s x t ho base e 2 i _ ht hi hz hsize hby (by omega) (by omega) rfl v n (flatP l) hs hown [t0, t1] rfl hx hn hbase fun v' w' h1 h2 h3 => h v' w' (by unfold OwnP; rw [flatP_snoc]; exact h1) h2 h3
end Go.Proofs.YtfkglbmdpefigaaGreatDoor
