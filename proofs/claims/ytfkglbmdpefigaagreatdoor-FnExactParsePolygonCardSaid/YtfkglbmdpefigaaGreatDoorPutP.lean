/- Parts of rows of points as sources of an append; where boxes and new rows lie. No program is named here. -/
import Derived.Test.YtfkglbmdpefigaaGreatDoorPurePts
import Derived.Test.YtfkglbmdpefigaaGreatDoorHalfW
import Derived.Test.YtfkglbmdpefigaaGreatDoorApp2
import Derived.Test.YtfkglbmdpefigaaGreatDoorApp3
namespace Go.Proofs.YtfkglbmdpefigaaGreatDoor
open Go.RowKit
theorem srcP_pre {w : World} {B b o n c : Nat} {l : List Pnt} {k : Nat} (h : RdP w B (some ⟨b, o, none⟩) n l) (hk : k ≤ n) : SrcF w 2 (.slice (some ⟨b, o, none⟩) k c) k (flatP (l.take k)) := by
  refine .inr ⟨_, _, rfl, by rw [flatP_len, List.length_take]; have := h.len; omega, fun j z hj => ?_⟩
  rw [← flatP_take, List.getElem?_take] at hj
  split at hj
  · have hn : 0 < n := by
      have := h.len
      have := (List.getElem?_eq_some_iff.1 hj).1
      rw [flatP_len] at this
      omega
    rw [Addr.add_lit]
    exact RdF.cells h hn j z hj
  · cases hj
theorem srcP_rest {w : World} {B b o n c : Nat} {l : List Pnt} {k : Nat} (h : RdP w B (some ⟨b, o, none⟩) n l) (hk : k ≤ n) : SrcF w 2 (.slice (some ⟨b, o + k * 2, none⟩) (n - k) c) (n - k) (flatP (l.drop k)) := by
  refine .inr ⟨_, _, rfl, by rw [flatP_len, List.length_drop]; have := h.len; omega, fun j z hj => ?_⟩
  rw [← flatP_drop, List.getElem?_drop] at hj
  have hn : 0 < n := by
    have := h.len
    have := (List.getElem?_eq_some_iff.1 hj).1
    rw [flatP_len] at this
    omega
  rw [Addr.add_lit, Nat.add_assoc]
  exact RdF.cells h hn _ z hj
theorem srcP_none (w : World) (A : Option Addr) (c : Nat) (h : A = none → c = 0) : SrcF w 2 (.slice A 0 c) 0 [] := by
  cases A with
  | none => rw [h rfl]; exact .inl ⟨rfl, rfl, rfl⟩
  | some ad => exact .inr ⟨ad, c, rfl, rfl, fun j z hj => by simp at hj⟩
theorem srcF_bx {w : World} {g k : Nat} {ys : List Int} (h : Bx w g (ys.map (Value.int .i64))) (hk : ys.length = k) : SrcF w k (.slice (some ⟨g, 0, none⟩) 1 1) 1 ys :=
  .inr ⟨_, _, rfl, by rw [hk, Nat.one_mul], fun j z hj => by
    rw [Addr.add_lit, Nat.zero_add]
    exact h.2.1 j _ (by rw [List.getElem?_map, hj]; rfl)⟩
theorem SrcF.drew1 {w : World} {k m : Nat} {x : Value} {ys : List Int} (h : SrcF w k x m ys) : SrcF w.drew k x m ys := h
theorem keep2 {w : World} {j : Nat} {x y : Value} (p : Bx w j [x, y]) : w.cell? ⟨j, 0, none⟩ = some x ∧ w.cell? ⟨j, 1, none⟩ = some y := ⟨p.at0, p.at1⟩
theorem Bx.drewN {a : World} {k : Nat} {cs : List Value} (h : Bx a k cs) (n : Nat) : Bx (a.drewN n) k cs := h
theorem srcP_nil (w : World) (l : List Pnt) {k c : Nat} (hk : Hid (k = 0)) (hc : Hid (c = 0)) : SrcF w 2 (.slice none k c) k (flatP (l.take k)) := by
  rw [hk.out, hc.out]
  exact .inl ⟨rfl, rfl, rfl⟩
theorem gen_world {C : World → Prop} {W : World} (S : World → Prop) (hS : S W) (h : ∀ u, S u → C u) : C W := h W hS
theorem bx_first (w : World) (cs : List Value) (t : TypeId) (o : Obj) : Bx ((w.alloc (.cells cs.toArray t)).alloc o) w.heap.size cs := (Bx.new w cs t).alloc o
theorem OwnF.empty2 {B : Nat} (w : World) (o : Obj) (E : TypeId) (k : Nat) (hB : B ≤ w.heap.size) : OwnF ((w.alloc o).alloc (.cells #[] E)) B E k (.slice (some ⟨w.heap.size + 1, 0, none⟩) 0 0) 0 [] := by
  have := OwnF.empty (w.alloc o) E k (B := B) (by rw [World.size_alloc]; omega)
  rwa [World.size_alloc] at this
theorem bx_second (w : World) (o : Obj) (cs : List Value) (t : TypeId) : Bx ((w.alloc o).alloc (.cells cs.toArray t)) (w.heap.size + 1) cs := by
  have := Bx.new (w.alloc o) cs t
  rwa [World.size_alloc] at this
theorem blk_far {A : Option Addr} {S q n c : Nat} (h : q < S) (hA : A = some ⟨S, 0, none⟩ ∨ A = some ⟨S + 1, 0, none⟩) : (Value.slice A n c).ownBlock ≠ some q := by
  rcases hA with rfl | rfl
  · intro e
    have := Option.some.inj e
    dsimp only at this
    omega
  · intro e
    have := Option.some.inj e
    dsimp only at this
    omega
theorem slice_ne {S q n c : Nat} (h : S ≠ q) : (Value.slice (some ⟨S, 0, none⟩) n c).ownBlock ≠ some q := fun e => h (Option.some.inj e)
theorem app_box {W w1 : World} {v v' : Value} {q : Nat} {cs : List Value} (P : Bx W q cs) (hne : v.ownBlock ≠ some q) (g : W.grownBy w1 v.ownBlock) (h : v'.ownBlock = v.ownBlock ∨ v'.ownBlock = some W.heap.size) : Bx w1 q cs ∧ v'.ownBlock ≠ some q := by
  refine ⟨P.grown g hne, ?_⟩
  rcases h with h | h
  · rw [h]; exact hne
  · rw [h]
    intro e
    have := Option.some.inj e
    have := P.1
    omega
/-- The place of p in an ordered row. -/
theorem placeP (p : Pnt) : ∀ L : List Pnt, ∃ K, K ≤ L.length ∧ (∀ i, i < K → ltP (L.getD i (0, 0)) p) ∧ (K = L.length ∨ K < L.length ∧ ¬ ltP (L.getD K (0, 0)) p)
  | [] => ⟨0, Nat.le_refl _, fun _ h => absurd h (by omega), .inl rfl⟩
  | a :: L => by
    by_cases h : ltP a p
    · obtain ⟨K, h1, h2, h3⟩ := placeP p L
      refine ⟨K + 1, by simpa using h1, fun i hi => ?_, ?_⟩
      · cases i with
        | zero => exact h
        | succ i => simpa using h2 i (by omega)
      · rcases h3 with h3 | ⟨h3, h4⟩
        · exact .inl (by simp [h3])
        · exact .inr ⟨by simpa using h3, by simpa using h4⟩
    · exact ⟨0, Nat.zero_le _, fun _ h => absurd h (by omega), .inr ⟨by simp, h⟩⟩
theorem OwnP.nilOr {w : World} {B n c : Nat} {A : Option Addr} {E : TypeId} {l : List Pnt} (h : OwnP w B E (.slice A n c) n l) : (A = none ∧ n = 0 ∧ c = 0) ∨ ∃ b, A = some ⟨b, 0, none⟩ := by
  rcases h.2 with ⟨hv, h0⟩ | ⟨g', cap', cur, hv, _⟩
  · cases hv
    exact .inl ⟨rfl, rfl, rfl⟩
  · cases hv
    exact .inr ⟨_, rfl⟩
end Go.Proofs.YtfkglbmdpefigaaGreatDoor
