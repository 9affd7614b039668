/- A map from exponents to fractions that the call has made: what it holds, key by key. -/
import Derived.Test.YteadfobnoapdhaaPureNeed
import Derived.Test.YteadfobnoapdhaaNum
import Derived.Maps.OwnSet
namespace Go.Proofs.Yteadfobnoapdhaa
open Go.RowKit
/-- How a fraction reads among a map's elements. -/
def enF (v : Int × Int) : DataW Unit := .agg [.lit (.int .i64 v.1), .lit (.int .i64 v.2)]
def fracL : List Value → Option (DataW Unit × List MemPlace)
  | [.int .i64 a, .int .i64 b] => some (enF (a, b), [])
  | _ => none
def fracElem : Value → Option (DataW Unit × List MemPlace)
  | .agg cs => fracL cs.toList
  | _ => none
theorem fracElem_mk (a b : Int) : fracElem (.agg #[.int .i64 a, .int .i64 b]) = some (enF (a, b), []) := rfl
theorem fracL_inv {cs : List Value} {z : DataW Unit × List MemPlace} (h : fracL cs = some z) : ∃ a b, cs = [.int .i64 a, .int .i64 b] ∧ z = (enF (a, b), []) := by
  unfold fracL at h
  split at h
  · injection h with h
    exact ⟨_, _, rfl, h.symm⟩
  · cases h
theorem fracElem_inv {v : Value} {z : DataW Unit × List MemPlace} (h : fracElem v = some z) : ∃ a b, v = .agg #[.int .i64 a, .int .i64 b] ∧ z = (enF (a, b), []) := by
  unfold fracElem at h
  split at h
  · rename_i cs
    obtain ⟨a, b, h1, h2⟩ := fracL_inv h
    refine ⟨a, b, ?_, h2⟩
    congr 1
    exact Array.ext' h1
  · cases h
theorem enF_inj {v u : Int × Int} (h : enF v = enF u) : v = u := by
  unfold enF at h
  injection h with h
  injection h with h1 h2
  injection h2 with h2 _
  injection h1 with h1
  injection h1 with _ h1
  injection h2 with h2
  injection h2 with _ h2
  exact Prod.ext h1 h2
/-- Block B is a map of at most n entries; at each exponent it holds what f says. -/
def FMap (w : World) (B n : Nat) (f : MapF) : Prop := ∃ D : DataW Unit, w.ownsMap Try.prog 3 fracElem B n D ∧ ∀ x : Nat, (∀ v, f x = some v → Maps.has D (.int .i64 x) = true ∧ D.atKey (.int .i64 x) (enF (0, 0)) = enF v) ∧ (f x = none → Maps.has D (.int .i64 x) = false)
theorem key_wf {x : Nat} (h : x ≤ 1000000) : (Lit.int .i64 (x : Int)).wf = true := WalkArith.wf_i64 (by omega)
theorem keyI {x : Nat} (h : x ≤ 1000000) : keyOf Try.prog 3 (.int .i64 (x : Int)) = some (.int .i64 x) := Maps.keyOf_int_mk Try.underlying3 (key_wf h)
theorem FMap.new (w : World) : FMap (w.alloc (.map #[] 0)) w.heap.size 0 (fun _ => none) :=
  ⟨.map [], World.ownsMap_made w _ _ _, fun x => ⟨fun v h => (by cases h), fun _ => rfl⟩⟩
theorem FMap.eq {w : World} {B n : Nat} {f g : MapF} (h : FMap w B n f) (e : f = g) : FMap w B n g := e ▸ h
theorem FMap.mono {w : World} {B n m : Nat} {f : MapF} (h : FMap w B n f) (e : n ≤ m) : FMap w B m f := by
  obtain ⟨D, h1, h2⟩ := h
  exact ⟨D, h1.mono e, h2⟩
theorem FMap.lt {w : World} {B n : Nat} {f : MapF} (h : FMap w B n f) : B < w.heap.size := by
  obtain ⟨D, h1, h2⟩ := h
  exact h1.lt
theorem FMap.go {w w' : World} {B n : Nat} {f : MapF} (h : FMap w B n f) (hb : Below w.heap.size w w') : FMap w' B n f := by
  obtain ⟨D, h1, h2⟩ := h
  have hlt := h1.lt
  obtain ⟨es, clock, hh, r⟩ := h1
  exact ⟨D, ⟨es, clock, (hb.block B hlt).trans hh, r⟩, h2⟩
theorem FMap.kept {w w' : World} {row : Option Nat} {B n : Nat} {f : MapF} (h : FMap w B n f) (hg : w.grownBy w' row) (hne : some B ≠ row) : FMap w' B n f := by
  obtain ⟨D, h1, h2⟩ := h
  exact ⟨D, h1.kept hg hne, h2⟩
theorem FMap.alloc {w : World} {B n : Nat} {f : MapF} (h : FMap w B n f) (o : Obj) : FMap (w.alloc o) B n f := h.kept (World.grownBy_alloc w o none) (by simp)
theorem FMap.drew {w : World} {B n : Nat} {f : MapF} (h : FMap w B n f) : FMap w.drew B n f := h
theorem FMap.set_ {w : World} {B n : Nat} {f : MapF} (h : FMap w B n f) {a : Addr} (ha : B ≠ a.block) (u : Value) : FMap (w.setCell a u) B n f := by
  obtain ⟨D, h1, h2⟩ := h
  exact ⟨D, h1.setCell ha u, h2⟩
/-- 'm[x] = v'. -/
theorem FMap.store {w : World} {B n : Nat} {f : MapF} (h : FMap w B n f) (hn : n ≤ 1000) (x : Nat) (hx : x ≤ 1000000) (a b : Int) :
    ∃ w', (Instr.mapUpdate 29 (.map (some B)) (.int .i64 (x : Int)) (.agg #[.int .i64 a, .int .i64 b])).run Try.prog w = .ok () w' ∧ FMap w' B (n + 1) (fun y => if y = x then some (a, b) else f y) ∧ w.grownBy w' (some B) := by
  obtain ⟨D, h1, h2⟩ := h
  have hM := h1.isMap
  obtain ⟨w', hrun, h3, hg⟩ := h1.update (Maps.int_keyed Try.underlying3) Try.underlying29 (by unfold maxLen; omega) (keyI hx) (fracElem_mk a b)
  refine ⟨w', hrun, ⟨_, h3, fun y => ?_⟩, hg⟩
  by_cases hy : y = x
  · subst hy
    refine ⟨fun v hv => ?_, fun hv => ?_⟩
    · dsimp only at hv
      rw [if_pos rfl] at hv
      injection hv with hv
      subst hv
      exact ⟨Maps.has_put_same hM (show WideAt.IsKeyLit (.int .i64 (y : Int)) from trivial) _, Maps.atKey_put_same hM (show WideAt.IsKeyLit (.int .i64 (y : Int)) from trivial) _ _⟩
    · dsimp only at hv
      rw [if_pos rfl] at hv
      cases hv
  · have hne : (Lit.int .i64 (y : Int)) ≠ .int .i64 (x : Int) := by
      intro e
      injection e with _ e
      omega
    simp only [if_neg hy]
    rw [Maps.has_put_other hne, Maps.atKey_put_other hne]
    exact h2 y
theorem zeroF (w : World) : (zeroValue 32).run Try.prog w = .ok (.agg #[.int .i64 0, .int .i64 0]) w := by kernel_rfl
/-- 'v, ok := m[x]'. -/
theorem FMap.look {w : World} {B n : Nat} {f : MapF} (h : FMap w B n f) (x : Nat) (hx : x ≤ 1000000) :
    ∃ a b, (Instr.lookup 29 (.map (some B)) (.int .i64 (x : Int)) true).run Try.prog w = .ok (.tuple #[.agg #[.int .i64 a, .int .i64 b], .bool (f x).isSome]) w ∧ ∀ v, f x = some v → v = (a, b) := by
  obtain ⟨D, h1, h2⟩ := h
  obtain ⟨v, ps, hrun, hv⟩ := h1.look_ok (Maps.int_keyed Try.underlying3) Try.underlying29 (zeroF w) (fracElem_mk 0 0) (keyI hx)
  obtain ⟨a, b, rfl, hz⟩ := fracElem_inv hv
  injection hz with hz _
  refine ⟨a, b, ?_, fun u hu => ?_⟩
  · rw [hrun]
    cases hf : f x with
    | none => rw [(h2 x).2 hf]; rfl
    | some u => rw [((h2 x).1 u hf).1]; rfl
  · rw [((h2 x).1 u hu).2] at hz
    exact enF_inj hz
end Go.Proofs.Yteadfobnoapdhaa
