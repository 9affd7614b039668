/- What all door statements of the seat share: the numbers of the listed tables. -/
import Derived.Test.YtkblommonimpfaaDoorShell
import Derived.Test.YtkblommonimpfaaDoorWTxt
import Derived.Test.YtkblommonimpfaaDoorTie
import Derived.Test.YtkblommonimpfaaDoorCards
import Derived.ProofKit
import Derived.LaidMore
import Derived.OpenShut
import Derived.Stop.Joined
import Derived.Stop.LaidErr
import Derived.Lib.LaidTab
import Derived.SevenTiedAt
namespace Go.Proofs.YtkblommonimpfaaDoor
open Go.ChangeShapes Go.WideShapes Go.ChangeAt Go.RowKit
theorem gTab : Tryd.prog.globalNamed "internal/strconv.uint64pow10" = some 5 := by kernel_rfl
theorem gTabType : (Tryd.prog.globals[5]?).map (·.type) = some 88 := by kernel_rfl
end Go.Proofs.YtkblommonimpfaaDoor
