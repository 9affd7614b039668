/- Parts of rows as sources of an append, for any size of element; small words of worlds. No program is named here. -/
import Derived.Test.YtfmlclciijlpkaaApp2
import Derived.Test.YtfmlclciijlpkaaApp3
import Derived.Test.YtfmlclciijlpkaaWide
namespace Go.Proofs.Ytfmlclciijlpkaa
open Go.RowKit
theorem srcF_pre {w : World} {B b o n c : Nat} {zs : List Int} {k : Nat} (h : RdF w B 1 (some ⟨b, o, none⟩) n zs) (hk : k ≤ n) : SrcF w 1 (.slice (some ⟨b, o, none⟩) k c) k (zs.take k) := by
  have hl := h.len
  refine .inr ⟨_, _, rfl, by rw [List.length_take]; omega, fun j z hj => ?_⟩
  rw [List.getElem?_take] at hj
  split at hj
  · have hn : 0 < n := by
      have := (List.getElem?_eq_some_iff.1 hj).1
      omega
    rw [Addr.add_lit]
    exact RdF.cells h hn j z hj
  · cases hj
theorem srcF_rest {w : World} {B b o n c : Nat} {zs : List Int} {k : Nat} (h : RdF w B 1 (some ⟨b, o, none⟩) n zs) (hk : k ≤ n) : SrcF w 1 (.slice (some ⟨b, o + k, none⟩) (n - k) c) (n - k) (zs.drop k) := by
  have hl := h.len
  refine .inr ⟨_, _, rfl, by rw [List.length_drop]; omega, fun j z hj => ?_⟩
  rw [List.getElem?_drop] at hj
  have hn : 0 < n := by
    have := (List.getElem?_eq_some_iff.1 hj).1
    omega
  rw [Addr.add_lit, Nat.add_assoc]
  exact RdF.cells h hn _ z hj
theorem srcF_none (w : World) (A : Option Addr) (c : Nat) (h : A = none → c = 0) : SrcF w 1 (.slice A 0 c) 0 [] := by
  cases A with
  | none => rw [h rfl]; exact .inl ⟨rfl, rfl, rfl⟩
  | some ad => exact .inr ⟨ad, c, rfl, rfl, fun j z hj => by simp at hj⟩
theorem srcF_nil (w : World) (l : List Int) {k c : Nat} (hk : Hid (k = 0)) (hc : Hid (c = 0)) : SrcF w 1 (.slice none k c) k (l.take k) := by
  rw [hk.out, hc.out]
  exact .inl ⟨rfl, rfl, rfl⟩
theorem srcF_bx {w : World} {g k : Nat} {ys : List Int} (h : Bx w g (ys.map (Value.int .i64))) (hk : ys.length = k) : SrcF w k (.slice (some ⟨g, 0, none⟩) 1 1) 1 ys :=
  .inr ⟨_, _, rfl, by rw [hk, Nat.one_mul], fun j z hj => by
    rw [Addr.add_lit, Nat.zero_add]
    exact h.2.1 j _ (by rw [List.getElem?_map, hj]; rfl)⟩
theorem gen_world {C : World → Prop} {W : World} (S : World → Prop) (hS : S W) (h : ∀ u, S u → C u) : C W := h W hS
theorem bx_first (w : World) (cs : List Value) (t : TypeId) (o : Obj) : Bx ((w.alloc (.cells cs.toArray t)).alloc o) w.heap.size cs := (Bx.new w cs t).alloc o
theorem bx_second (w : World) (o : Obj) (cs : List Value) (t : TypeId) : Bx ((w.alloc o).alloc (.cells cs.toArray t)) (w.heap.size + 1) cs := by
  have := Bx.new (w.alloc o) cs t
  rwa [World.size_alloc] at this
theorem OwnF.drew1 {w : World} {B k n : Nat} {E : TypeId} {v : Value} {zs : List Int} (h : OwnF w B E k v n zs) : OwnF w.drew B E k v n zs := h
theorem OwnF.empty2 {B : Nat} (w : World) (o : Obj) (E : TypeId) (k : Nat) (hB : B ≤ w.heap.size) : OwnF ((w.alloc o).alloc (.cells #[] E)) B E k (.slice (some ⟨w.heap.size + 1, 0, none⟩) 0 0) 0 [] := by
  have := OwnF.empty (w.alloc o) E k (B := B) (by rw [World.size_alloc]; omega)
  rwa [World.size_alloc] at this
theorem slice_ne {S q n c : Nat} (h : S ≠ q) : (Value.slice (some ⟨S, 0, none⟩) n c).ownBlock ≠ some q := fun e => h (Option.some.inj e)
theorem app_box {W w1 : World} {v v' : Value} {q : Nat} {cs : List Value} (P : Bx W q cs) (hne : v.ownBlock ≠ some q) (g : W.grownBy w1 v.ownBlock) (h : v'.ownBlock = v.ownBlock ∨ v'.ownBlock = some W.heap.size) : Bx w1 q cs ∧ v'.ownBlock ≠ some q := by
  refine ⟨P.grown g hne, ?_⟩
  rcases h with h | h
  · rw [h]; exact hne
  · rw [h]
    intro e
    have := Option.some.inj e
    have := P.1
    omega
theorem slice_toO {P : Program} {t e : TypeId} (ht : P.underlying t = some (.slice e)) (he : P.elem t = e) (hz : ∀ w, (Go.sizeOf e).run P w = .ok 1 w) (g o n c m : Nat) (hm : m ≤ n) (hc : n ≤ c) :
    ∀ w, (Instr.slice t (.slice (some ⟨g, o, none⟩) n c) none (some (.int .i64 (m : Int))) none).run P w = .ok (.slice (some ⟨g, o, none⟩) m c) w := fun w => by
  rw [run_slice_h w t _ n c (by rw [he]; exact ht) .i64 m (by omega) (by omega), he, hz]
  simp [sliced, Result.andThen]
  intro h
  simp [Addr.add]
theorem slice_fromO {P : Program} {t e : TypeId} (ht : P.underlying t = some (.slice e)) (he : P.elem t = e) (hz : ∀ w, (Go.sizeOf e).run P w = .ok 1 w) (g o n c m : Nat) (hm : m < n) (hc : n ≤ c) :
    ∀ w, (Instr.slice t (.slice (some ⟨g, o, none⟩) n c) (some (.int .i64 (m : Int))) none none).run P w = .ok (.slice (some ⟨g, o + m, none⟩) (n - m) (c - m)) w := fun w => by
  rw [run_slice_l w t _ n c (by rw [he]; exact ht) .i64 m (by omega) (by omega), he, hz]
  simp [sliced, Result.andThen, show ¬ c = m by omega, Addr.add_lit]
theorem slice_toN {P : Program} {t e : TypeId} (ht : P.underlying t = some (.slice e)) (he : P.elem t = e) (hz : ∀ w, (Go.sizeOf e).run P w = .ok 1 w) (k c : Nat) (hk : k = 0) (hc : c = 0) :
    ∀ w, (Instr.slice t (.slice none k c) none (some (.int .i64 (k : Int))) none).run P w = .ok (.slice none k c) w := fun w => by
  subst hk; subst hc
  have := run_slice_h (P := P) w t none 0 0 (by rw [he]; exact ht) .i64 0 (by omega) (by omega)
  refine this.trans ?_
  rw [he, hz]
  simp [sliced, Result.andThen]
theorem ownI_cap {w : World} {B n c : Nat} {A : Option Addr} {E : TypeId} {zs : List Int} (h : Own w B E (.slice A n c) n zs) : n ≤ c ∧ c ≤ maxLen ∧ (A = none → n = 0 ∧ c = 0) := by
  rcases h.2 with ⟨hv, h0⟩ | ⟨g', cap', cur, hv, _, hg, hnc, hcm, _⟩
  · cases hv
    exact ⟨Nat.le_refl _, Nat.zero_le _, fun _ => ⟨rfl, rfl⟩⟩
  · cases hv
    exact ⟨hnc, hcm, fun h => by cases h⟩
theorem ownI_nil {w : World} {B n c : Nat} {A : Option Addr} {E : TypeId} {zs : List Int} (h : Own w B E (.slice A n c) n zs) : (A = none ∧ n = 0 ∧ c = 0) ∨ ∃ b, A = some ⟨b, 0, none⟩ := by
  rcases h.2 with ⟨hv, h0⟩ | ⟨g', cap', cur, hv, _⟩
  · cases hv
    exact .inl ⟨rfl, rfl, rfl⟩
  · cases hv
    exact .inr ⟨_, rfl⟩
end Go.Proofs.Ytfmlclciijlpkaa
