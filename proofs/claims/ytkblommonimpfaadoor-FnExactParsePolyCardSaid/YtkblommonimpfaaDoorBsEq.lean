/- Texts compared, and a text behind its first byte. -/
import Derived.Test.YtkblommonimpfaaDoorPureDec
namespace Go.Proofs.YtkblommonimpfaaDoor
open Go.RowKit
theorem bs_same {X s : ByteArray} (h : X.data.toList = s.data.toList) : (X.toList == s.toList) = true := by
  rw [Lib.toList_data, Lib.toList_data, h]
  simp
theorem bs_other {X s : ByteArray} (h : X.data.toList ≠ s.data.toList) : (X.toList == s.toList) = false := by
  rw [Lib.toList_data, Lib.toList_data, beq_eq_false_iff_ne]
  exact h
theorem ext_tail (s : ByteArray) : (s.extract 1 s.size).data.toList = s.data.toList.tail := by
  rw [Lib.extract_to_end, List.drop_one]
end Go.Proofs.YtkblommonimpfaaDoor
