/- The walks of the functions on lists of numbers (both packages), each against its plain function. -/
import Derived.Test.YtkblommonimpfaaDoorNum
namespace Go.Proofs.YtkblommonimpfaaDoor
open Go.RowKit
theorem info_int : (Tryd.prog.info? 3).map (fun i => (i.zero, i.size, i.bytes)) = some (some (.int .i64 0), 1, 8) := by kernel_rfl

end Go.Proofs.YtkblommonimpfaaDoor
