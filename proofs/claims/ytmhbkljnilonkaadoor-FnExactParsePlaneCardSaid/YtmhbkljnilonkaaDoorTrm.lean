/- Terms of three integers: the plain list, and slices of them. -/
import Derived.Test.YtmhbkljnilonkaaDoorWide
namespace Go.Proofs.YtmhbkljnilonkaaDoor
open Go.RowKit
/-- A term: the exponents i, j and the coefficient c. -/
abbrev Trm := Int × Int × Int
def flatT (l : List Trm) : List Int := l.flatMap fun t => [t.1, t.2.1, t.2.2]
theorem flatT_nil : flatT [] = [] := rfl
theorem flatT_cons (t : Trm) (l : List Trm) : flatT (t :: l) = t.1 :: t.2.1 :: t.2.2 :: flatT l := rfl
theorem flatT_app (l m : List Trm) : flatT (l ++ m) = flatT l ++ flatT m := by simp [flatT]
theorem flatT_snoc (l : List Trm) (t : Trm) : flatT (l ++ [t]) = flatT l ++ [t.1, t.2.1, t.2.2] := by simp [flatT]
theorem flatT_len : ∀ l : List Trm, (flatT l).length = l.length * 3
  | [] => rfl
  | t :: l => by simp only [flatT_cons, List.length_cons, flatT_len l]; omega
theorem flatT_at : ∀ (l : List Trm) (k : Nat), k < l.length → (flatT l).getD (k * 3) 0 = (l.getD k (0, 0, 0)).1 ∧ (flatT l).getD (k * 3 + 1) 0 = (l.getD k (0, 0, 0)).2.1 ∧ (flatT l).getD (k * 3 + 2) 0 = (l.getD k (0, 0, 0)).2.2
  | [], k, h => by simp at h
  | t :: l, 0, _ => by simp [flatT_cons]
  | t :: l, k + 1, h => by
    have := flatT_at l k (by simpa using h)
    simp only [flatT_cons, List.getD_cons_succ]
    rw [show (k + 1) * 3 = k * 3 + 1 + 1 + 1 from by omega]
    simp only [List.getD_cons_succ]
    exact this
theorem flatT_inj : ∀ {l m : List Trm}, flatT l = flatT m → l = m
  | [], [], _ => rfl
  | [], t :: m, h => by simp [flatT] at h
  | t :: l, [], h => by simp [flatT] at h
  | (a, b, c) :: l, (x, y, z) :: m, h => by
    simp only [flatT_cons, List.cons.injEq] at h
    obtain ⟨rfl, rfl, rfl, h⟩ := h
    rw [flatT_inj h]
/-- The slice reads as the terms l. -/
def RdT (w : World) (B : Nat) (A : Option Addr) (n : Nat) (l : List Trm) : Prop := RdF w B 3 A n (flatT l)
section
variable {w w' : World} {B B' n : Nat} {A : Option Addr} {l : List Trm}
theorem RdT.len (h : RdT w B A n l) : l.length = n := by have := RdF.len h; rw [flatT_len] at this; omega
theorem RdT.le (h : RdT w B A n l) : n ≤ 9223372036854775807 := RdF.le h
theorem RdT.none_ : RdT w B A 0 [] := RdF.none_
theorem RdT.below (h : RdT w B A n l) (hb : Below B w w') : RdT w' B A n l := RdF.below h hb
theorem RdT.more (h : RdT w B A n l) (hB : B ≤ B') : RdT w B' A n l := RdF.more h hB
theorem RdT.drewN (h : RdT w B A n l) (j : Nat) : RdT (w.drewN j) B A n l := h
theorem RdT.at_ (h : RdT w B A n l) {k : Nat} (hk : k < n) : ∃ b o, A = some ⟨b, o, none⟩ ∧ b < B ∧ w.cell? ⟨b, o + k * 3, none⟩ = some (.int .i64 (l.getD k (0, 0, 0)).1) ∧ w.cell? ⟨b, o + k * 3 + 1, none⟩ = some (.int .i64 (l.getD k (0, 0, 0)).2.1) ∧ w.cell? ⟨b, o + k * 3 + 2, none⟩ = some (.int .i64 (l.getD k (0, 0, 0)).2.2) := by
  obtain ⟨b, o, e, hb, hc⟩ := RdF.at_ h (by omega)
  have hl := h.len
  obtain ⟨h0, h1, h2⟩ := flatT_at l k (by omega)
  refine ⟨b, o, e, hb, ?_, ?_, ?_⟩
  · rw [← h0]; exact hc _ (by omega)
  · rw [← h1]; exact hc (k * 3 + 1) (by omega)
  · rw [← h2]; exact hc (k * 3 + 2) (by omega)
end
def OwnT (w : World) (B : Nat) (E : TypeId) (v : Value) (n : Nat) (l : List Trm) : Prop := OwnF w B E 3 v n (flatT l)
def RetT (E : TypeId) (l : List Trm) (w : World) (e : Ending) (w' : World) : Prop := ∃ A n c, e = .returned (.slice A n c) ∧ OwnT w' w.heap.size E (.slice A n c) n l ∧ Below w.heap.size w w' ∧ n ≤ 3000000000
def RetTB (E : TypeId) (l : List Trm) (ok : Bool) (w : World) (e : Ending) (w' : World) : Prop := ∃ A n c, e = .returned (.tuple #[.slice A n c, .bool ok]) ∧ OwnT w' w.heap.size E (.slice A n c) n l ∧ Below w.heap.size w w' ∧ n ≤ 3000000000
section
variable {w w' : World} {B B' n : Nat} {E : TypeId} {v : Value} {A : Option Addr} {c : Nat} {l : List Trm}
theorem OwnT.len (h : OwnT w B E v n l) : l.length = n := by have := OwnF.len h; rw [flatT_len] at this; omega
theorem OwnT.nil (w : World) (B : Nat) (E : TypeId) : OwnT w B E (.slice none 0 0) 0 [] := OwnF.nil w B E 3
theorem OwnT.shape (h : OwnT w B E v n l) : ∃ A c, v = .slice A n c := OwnF.shape h
theorem OwnT.rd (h : OwnT w B E (.slice A n c) n l) : RdT w w.heap.size A n l := OwnF.rd h
theorem OwnT.le (h : OwnT w B E (.slice A n c) n l) : n ≤ 9223372036854775807 := OwnF.le h
theorem OwnT.more (h : OwnT w B E v n l) (hB : B' ≤ B) : OwnT w B' E v n l := OwnF.more h hB
theorem OwnT.new (h : OwnT w B E v n l) (o : Obj) : OwnT (w.alloc o) B E v n l := OwnF.new h o
theorem OwnT.drewN (h : OwnT w B E v n l) (j : Nat) : OwnT (w.drewN j) B E v n l := h
theorem OwnT.lt (h : OwnT w B E v n l) : ∀ j, v.ownBlock = some j → B ≤ j ∧ j < w.heap.size := OwnF.lt h
theorem OwnT.kept {row : Option Nat} (h : OwnT w B E v n l) (hg : w.grownBy w' row) (hne : v.ownBlock = none ∨ v.ownBlock ≠ row) : OwnT w' B E v n l := OwnF.kept h hg hne
theorem OwnT.go (h : OwnT w B E v n l) (hb : Below w.heap.size w w') : OwnT w' B E v n l := OwnF.go h hb
theorem ownT_eq {l' : List Trm} (h : OwnT w B E v n l) (e : l = l') : OwnT w B E v n l' := e ▸ h
theorem OwnT.head (h : OwnT w B E (.slice A n c) n l) (hn : 0 < n) : ∃ g, A = some ⟨g, 0, none⟩ := OwnF.head h hn
theorem retT_mk (h : OwnT w' w.heap.size E v n l) (hb : Below w.heap.size w w') (hn : n ≤ 3000000000) : RetT E l w (.returned v) w' := retF_mk h hb hn
theorem retTB_mk {ok : Bool} (h : OwnT w' w.heap.size E v n l) (hb : Below w.heap.size w w') (hn : n ≤ 3000000000) : RetTB E l ok w (.returned (.tuple #[v, .bool ok])) w' := retFB_mk h hb hn
theorem OwnT.empty (w : World) (E : TypeId) (hB : B ≤ w.heap.size) : OwnT (w.alloc (.cells #[] E)) B E (.slice (some ⟨w.heap.size, 0, none⟩) 0 0) 0 [] := OwnF.empty w E 3 hB
theorem ownT_ne {a b : World} {B1 B2 n1 n2 : Nat} {E1 E2 : TypeId} {v1 v2 : Value} {xs ys : List Trm} (h1 : OwnT a B1 E1 v1 n1 xs) (h2 : OwnT b B2 E2 v2 n2 ys) (h : a.heap.size ≤ B2) : v1.ownBlock = none ∨ v1.ownBlock ≠ v2.ownBlock := ownF_ne h1 h2 h
theorem ownT_ne' {a b : World} {B1 B2 n1 n2 : Nat} {E1 E2 : TypeId} {v1 v2 : Value} {xs ys : List Trm} (h1 : OwnT a B1 E1 v1 n1 xs) (h2 : OwnT b B2 E2 v2 n2 ys) (h : a.heap.size ≤ B2) : v2.ownBlock = none ∨ v2.ownBlock ≠ v1.ownBlock := ownF_ne' h1 h2 h
end
/-- 'append(out, t)' for a term. -/
theorem wp_appT {P : Program} {W : World} {ops : Array Oper} {rest : List Oper} {o : Oper} {a : Act} {Q : Exit → Act → World → Prop} (hgd : o.guard = none) (s x : Operand) (t : TypeId)
    (ho : o.op = .call { callee := .builtin .append, args := #[s, x], argTypes := #[t, t] })
    (base : Nat) (e : TypeId) (i : TypeInfo) (ht : P.underlying t = some (.slice e)) (hi : P.info? e = some i) (hz : i.zero = some (.agg #[.int .i64 0, .int .i64 0, .int .i64 0])) (hsize : i.size = 3) (hby : i.bytes = 24)
    (v : Value) (n : Nat) (l : List Trm) (hs : a.eval s = v) (hown : OwnT W base e v n l) (t0 t1 t2 : Int) (hx : a.eval x = .slice (some ⟨W.heap.size, 0, none⟩) 1 1)
    (hn : n ≤ 3000000000) (hbase : base ≤ W.heap.size)
    (h : ∀ v' w', OwnT w' base e v' (n + 1) (l ++ [(t0, t1, t2)]) → Below base W w' → W.grownBy w' v.ownBlock → wpList P ops Q rest (a.put o.dst v') w') : wpList P ops Q (o :: rest) a (W.alloc (.cells #[.int .i64 t0, .int .i64 t1, .int .i64 t2] e)) :=
  wp_appF hgd s x t ho base e 3 i _ ht hi hz hsize hby (by omega) (by omega) rfl v n (flatT l) hs hown [t0, t1, t2] rfl hx hn hbase fun v' w' h1 h2 h3 => h v' w' (by unfold OwnT; rw [flatT_snoc]; exact h1) h2 h3
end Go.Proofs.YtmhbkljnilonkaaDoor
