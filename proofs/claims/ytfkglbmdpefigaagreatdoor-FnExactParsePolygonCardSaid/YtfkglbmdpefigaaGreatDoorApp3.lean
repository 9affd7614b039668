/- Slice expressions at the end and behind the first element. No program is named here. -/
import Derived.Test.YtfkglbmdpefigaaGreatDoorApp2
namespace Go.Proofs.YtfkglbmdpefigaaGreatDoor
open Go.RowKit
/-- 'x[n:]' of a slice of n elements: an empty slice. -/
theorem slice_end {P : Program} {t e : TypeId} {k : Nat} (ht : P.underlying t = some (.slice e)) (he : P.elem t = e) (hz : ∀ w, (Go.sizeOf e).run P w = .ok k w) (A : Option Addr) (n c : Nat) (hA : A = none → c = 0) :
    ∃ A' c', (∀ w, (Instr.slice t (.slice A n c) (some (.int .i64 (n : Int))) none none).run P w = .ok (.slice A' 0 c') w) ∧ (A' = none → c' = 0) := by
  refine ⟨if c = n then A else A.map (·.add (n * k)), c - n, fun w => ?_, fun h => ?_⟩
  · rw [run_slice_l w t A n c (by rw [he]; exact ht) .i64 n (by omega) (by omega), he, hz]
    simp [sliced, Result.andThen]
  · split at h
    · rw [hA h]; omega
    · cases A with
      | none => rw [hA rfl]; omega
      | some a => cases h
/-- 'x[1:]' of a slice that is not empty. -/
theorem slice_tail {P : Program} {t e : TypeId} {k : Nat} (ht : P.underlying t = some (.slice e)) (he : P.elem t = e) (hz : ∀ w, (Go.sizeOf e).run P w = .ok k w) (b o n c : Nat) (h0 : 1 ≤ n) :
    ∃ A', (∀ w, (Instr.slice t (.slice (some ⟨b, o, none⟩) n c) (some (.int .i64 1)) none none).run P w = .ok (.slice (some A') (n - 1) (c - 1)) w) ∧ (1 < c → A' = ⟨b, o + k, none⟩) := by
  refine ⟨if c = 1 then ⟨b, o, none⟩ else (⟨b, o, none⟩ : Addr).add k, fun w => ?_, fun h => ?_⟩
  · rw [run_slice_l w t _ n c (by rw [he]; exact ht) .i64 1 (by omega) (by omega), he, hz]
    simp [sliced, Result.andThen]
    split <;> rfl
  · rw [if_neg (by omega), Addr.add_lit]
end Go.Proofs.YtfkglbmdpefigaaGreatDoor
