/- The reference's insertion of a term into an ordered list. -/
import Derived.Test.YtfamemjlhgkneaaWMove
import Derived.Test.YtfamemjlhgkneaaPureGath
import Derived.Test.YtfamemjlhgkneaaApp3
import Derived.Deep.RegionLaw
import Derived.StillTailTactics
namespace Go.Proofs.Ytfamemjlhgkneaa
open Go.RowKit
theorem OwnT.capAt {w : World} {B n c : Nat} {A : Option Addr} {E : TypeId} {l : List Trm} (h : OwnT w B E (.slice A n c) n l) : n ≤ c ∧ c ≤ maxLen ∧ (A = none → n = 0 ∧ c = 0) := by
  rcases h.2 with ⟨hv, h0⟩ | ⟨g', cap', cur, hv, _, hg, hnc, hcm, _⟩
  · cases hv
    exact ⟨Nat.le_refl _, Nat.zero_le _, fun _ => ⟨rfl, rfl⟩⟩
  · cases hv
    exact ⟨hnc, hcm, fun h => by cases h⟩
theorem putT_at {t : Trm} : ∀ {l : List Trm} {k : Nat}, k ≤ l.length → (∀ i, i < k → ltT (l.getD i (0, 0, 0)) t = true) → putT t l = l.take k ++ putT t (l.drop k)
  | l, 0, _, _ => by simp
  | [], k + 1, h, _ => by simp at h
  | a :: l, k + 1, h, hl => by
    have h0 := hl 0 (by omega)
    simp only [List.getD_cons_zero] at h0
    rw [putT, if_pos h0, putT_at (l := l) (k := k) (by simpa using h) fun i hi => by have := hl (i + 1) (by omega); simpa using this]
    simp
theorem putT_end {t : Trm} {l : List Trm} {k : Nat} (hk : k = l.length) (h : ∀ i, i < k → ltT (l.getD i (0, 0, 0)) t = true) : putT t l = l.take k ++ [t] ++ [] := by
  rw [putT_at (by omega) h, hk, List.drop_length, List.append_nil]
  rfl
theorem drop_consT {l : List Trm} {k : Nat} (hk : k < l.length) : l.drop k = l.getD k (0, 0, 0) :: l.drop (k + 1) := by
  rw [List.drop_eq_getElem_cons hk]
  simp [List.getD, List.getElem?_eq_getElem hk]
theorem putT_before {t : Trm} {l : List Trm} {k : Nat} (hk : k < l.length) (h : ∀ i, i < k → ltT (l.getD i (0, 0, 0)) t = true) (h1 : ltT (l.getD k (0, 0, 0)) t = false) (h2 : ltT t (l.getD k (0, 0, 0)) = true) : putT t l = l.take k ++ [t] ++ l.drop k := by
  rw [putT_at (by omega) h, drop_consT hk, putT, if_neg (by rw [h1]; simp), if_pos h2, List.append_assoc]
  rfl
theorem putT_merge {t : Trm} {l : List Trm} {k : Nat} (hk : k < l.length) (h : ∀ i, i < k → ltT (l.getD i (0, 0, 0)) t = true) (h1 : ltT (l.getD k (0, 0, 0)) t = false) (h2 : ltT t (l.getD k (0, 0, 0)) = false) : putT t l = l.take k ++ [(t.1, t.2.1, min t.2.2 (l.getD k (0, 0, 0)).2.2)] ++ l.drop (k + 1) := by
  rw [putT_at (by omega) h, drop_consT hk, putT, if_neg (by rw [h1]; simp), if_neg (by rw [h2]; simp), List.append_assoc]
  rfl
theorem flatT_take (l : List Trm) (k : Nat) : (flatT l).take (k * 3) = flatT (l.take k) := by
  induction l generalizing k with
  | nil => simp [flatT]
  | cons t l ih =>
    cases k with
    | zero => simp [flatT]
    | succ k =>
      rw [flatT_cons, List.take_succ_cons, flatT_cons, show (k + 1) * 3 = k * 3 + 1 + 1 + 1 from by omega]
      simp only [List.take_succ_cons, ih]
theorem flatT_drop (l : List Trm) (k : Nat) : (flatT l).drop (k * 3) = flatT (l.drop k) := by
  induction l generalizing k with
  | nil => simp [flatT]
  | cons t l ih =>
    cases k with
    | zero => simp
    | succ k =>
      rw [flatT_cons, show (k + 1) * 3 = k * 3 + 1 + 1 + 1 from by omega]
      simp only [List.drop_succ_cons, ih]
/-- The first k terms of a slice, as a source. -/
theorem srcT_pre {w : World} {B b o n c : Nat} {l : List Trm} {k : Nat} (h : RdT w B (some ⟨b, o, none⟩) n l) (hk : k ≤ n) : SrcF w 3 (.slice (some ⟨b, o, none⟩) k c) k (flatT (l.take k)) := by
  refine .inr ⟨_, _, rfl, by rw [flatT_len, List.length_take]; have := h.len; omega, fun j z hj => ?_⟩
  rw [← flatT_take, List.getElem?_take] at hj
  split at hj
  · have hn : 0 < n := by
      have := h.len
      have := (List.getElem?_eq_some_iff.1 hj).1
      rw [flatT_len] at this
      omega
    rw [Addr.add_lit]
    exact RdF.cells h hn j z hj
  · cases hj
theorem srcT_rest {w : World} {B b o n c : Nat} {l : List Trm} {k : Nat} (h : RdT w B (some ⟨b, o, none⟩) n l) (hk : k ≤ n) : SrcF w 3 (.slice (some ⟨b, o + k * 3, none⟩) (n - k) c) (n - k) (flatT (l.drop k)) := by
  refine .inr ⟨_, _, rfl, by rw [flatT_len, List.length_drop]; have := h.len; omega, fun j z hj => ?_⟩
  rw [← flatT_drop, List.getElem?_drop] at hj
  have hn : 0 < n := by
    have := h.len
    have := (List.getElem?_eq_some_iff.1 hj).1
    rw [flatT_len] at this
    omega
  rw [Addr.add_lit, Nat.add_assoc]
  exact RdF.cells h hn _ z hj
/-- The terms behind place k, by the address of a tail. -/
theorem srcT_tail {w : World} {B b o n c : Nat} {l : List Trm} {k : Nat} {A' : Addr} (h : RdT w B (some ⟨b, o, none⟩) n l) (hk : k < n) (hc : n ≤ c) (hA : 1 < c - k → A' = ⟨b, o + k * 3 + 3, none⟩) : SrcF w 3 (.slice (some A') (n - k - 1) (c - k - 1)) (n - k - 1) (flatT (l.drop (k + 1))) := by
  by_cases h1 : k + 1 = n
  · refine .inr ⟨_, _, rfl, by rw [flatT_len, List.length_drop]; have := h.len; omega, fun j z hj => ?_⟩
    have := (List.getElem?_eq_some_iff.1 hj).1
    rw [flatT_len, List.length_drop, h.len] at this
    omega
  · rw [hA (by omega)]
    have := srcT_rest (c := c - k - 1) h (show k + 1 ≤ n by omega)
    rwa [show o + (k + 1) * 3 = o + k * 3 + 3 from by omega, show n - (k + 1) = n - k - 1 from by omega] at this
theorem srcT_none (w : World) (A : Option Addr) (c : Nat) (h : A = none → c = 0) : SrcF w 3 (.slice A 0 c) 0 [] := by
  cases A with
  | none => rw [h rfl]; exact .inl ⟨rfl, rfl, rfl⟩
  | some ad => exact .inr ⟨ad, c, rfl, rfl, fun j z hj => by simp at hj⟩
theorem srcF_bx {w : World} {g k : Nat} {ys : List Int} (h : Bx w g (ys.map (Value.int .i64))) (hk : ys.length = k) : SrcF w k (.slice (some ⟨g, 0, none⟩) 1 1) 1 ys :=
  .inr ⟨_, _, rfl, by rw [hk, Nat.one_mul], fun j z hj => by
    rw [Addr.add_lit, Nat.zero_add]
    exact h.2.1 j _ (by rw [List.getElem?_map, hj]; rfl)⟩
theorem OwnF.drew1 {w : World} {B k n : Nat} {E : TypeId} {v : Value} {zs : List Int} (h : OwnF w B E k v n zs) : OwnF w.drew B E k v n zs := h
theorem SrcF.drew1 {w : World} {k m : Nat} {x : Value} {ys : List Int} (h : SrcF w k x m ys) : SrcF w.drew k x m ys := h
theorem keep3 {w : World} {j : Nat} {x y z : Value} (p : Bx w j [x, y, z]) : w.cell? ⟨j, 0, none⟩ = some x ∧ w.cell? ⟨j, 1, none⟩ = some y ∧ w.cell? ⟨j, 2, none⟩ = some z := ⟨p.at0, p.at1, p.at2⟩
theorem Bx.drewN {a : World} {k : Nat} {cs : List Value} (h : Bx a k cs) (n : Nat) : Bx (a.drewN n) k cs := h
theorem Bx.put2_3 {a : World} {k : Nat} {u v x : Value} (h : Bx a k [u, v, x]) (y : Value) : Bx (a.setCell ⟨k, 2, none⟩ y) k [u, v, y] := by
  refine ⟨by have := h.1; simpa [World.setCell] using this, fun o z hz => ?_, fun o => by rw [World.frozen?_setCell]; exact h.fz o⟩
  match o, hz with
  | 0, hz => simp only [List.getElem?_cons_zero, Option.some.injEq] at hz; subst hz; exact (World.cell?_setCell_other _ _ _ _ (by simp)).trans h.at0
  | 1, hz => simp only [List.getElem?_cons_succ, List.getElem?_cons_zero, Option.some.injEq] at hz; subst hz; exact (World.cell?_setCell_other _ _ _ _ (by simp)).trans h.at1
  | 2, hz => simp only [List.getElem?_cons_succ, List.getElem?_cons_zero, Option.some.injEq] at hz; subst hz; exact World.cell?_setCell_same _ _ _ h.at2
  | n + 3, hz => simp at hz
theorem srcT_nil (w : World) (l : List Trm) {k c : Nat} (hk : Hid (k = 0)) (hc : Hid (c = 0)) : SrcF w 3 (.slice none k c) k (flatT (l.take k)) := by
  rw [hk.out, hc.out]
  exact .inl ⟨rfl, rfl, rfl⟩
theorem gen_world {C : World → Prop} {W : World} (S : World → Prop) (hS : S W) (h : ∀ u, S u → C u) : C W := h W hS
theorem bx_first (w : World) (cs : List Value) (t : TypeId) (o : Obj) : Bx ((w.alloc (.cells cs.toArray t)).alloc o) w.heap.size cs := (Bx.new w cs t).alloc o
theorem OwnF.empty2 {B : Nat} (w : World) (o : Obj) (E : TypeId) (k : Nat) (hB : B ≤ w.heap.size) : OwnF ((w.alloc o).alloc (.cells #[] E)) B E k (.slice (some ⟨w.heap.size + 1, 0, none⟩) 0 0) 0 [] := by
  have := OwnF.empty (w.alloc o) E k (B := B) (by rw [World.size_alloc]; omega)
  rwa [World.size_alloc] at this
theorem srcF_newD (w : World) (k : Nat) (ys : List Int) (e : TypeId) (hk : ys.length = k) : SrcF (w.alloc (.cells (ys.map (Value.int .i64)).toArray e)) k (.slice (some ⟨w.heap.size, 0, none⟩) 1 1) 1 ys := SrcF.new w k ys e hk
theorem still_ofT {P : Program} {f : FuncId} {args : Array Value} {w : World} {v : Value} (h : Calls P f args w fun e w' => e = .returned v ∧ w = w') : Calls P f args w fun e w' => e = .returned v ∧ w' = w :=
  h.mono fun _ _ ⟨a, b⟩ => ⟨a, b.symm⟩
theorem bx_second (w : World) (o : Obj) (cs : List Value) (t : TypeId) : Bx ((w.alloc o).alloc (.cells cs.toArray t)) (w.heap.size + 1) cs := by
  have := Bx.new (w.alloc o) cs t
  rwa [World.size_alloc] at this
theorem blk_far {A : Option Addr} {S q n c : Nat} (h : q < S) (hA : A = some ⟨S, 0, none⟩ ∨ A = some ⟨S + 1, 0, none⟩) : (Value.slice A n c).ownBlock ≠ some q := by
  rcases hA with rfl | rfl
  · intro e
    have := Option.some.inj e
    dsimp only at this
    omega
  · intro e
    have := Option.some.inj e
    dsimp only at this
    omega
theorem slice_ne {S q n c : Nat} (h : S ≠ q) : (Value.slice (some ⟨S, 0, none⟩) n c).ownBlock ≠ some q := fun e => h (Option.some.inj e)
theorem app_box {W w1 : World} {v v' : Value} {q : Nat} {cs : List Value} (P : Bx W q cs) (hne : v.ownBlock ≠ some q) (g : W.grownBy w1 v.ownBlock) (h : v'.ownBlock = v.ownBlock ∨ v'.ownBlock = some W.heap.size) : Bx w1 q cs ∧ v'.ownBlock ≠ some q := by
  refine ⟨P.grown g hne, ?_⟩
  rcases h with h | h
  · rw [h]; exact hne
  · rw [h]
    intro e
    have := Option.some.inj e
    have := P.1
    omega
theorem bx_lt_ne {v : Value} {q : Nat} (h : ∃ g, v.ownBlock = some g ∧ g ≠ q) : v.ownBlock ≠ some q := by
  obtain ⟨g, e, hg⟩ := h
  rw [e]
  exact fun h => hg (Option.some.inj h)
end Go.Proofs.Ytfamemjlhgkneaa
