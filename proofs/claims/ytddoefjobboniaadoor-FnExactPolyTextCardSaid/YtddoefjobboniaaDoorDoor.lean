/- What all door statements of the seat share: the numbers of the listed tables. -/
import Derived.Test.YtddoefjobboniaaDoorShell
import Derived.Test.YtddoefjobboniaaDoorWTxt
import Derived.Test.YtddoefjobboniaaDoorTie
import Derived.Test.YtddoefjobboniaaDoorCards
import Derived.ProofKit
import Derived.LaidMore
import Derived.OpenShut
import Derived.Stop.Joined
import Derived.Stop.LaidErr
import Derived.Lib.LaidTab
import Derived.SevenTiedAt
namespace Go.Proofs.YtddoefjobboniaaDoor
open Go.ChangeShapes Go.WideShapes Go.ChangeAt Go.RowKit
theorem gTab : Tryd.prog.globalNamed "internal/strconv.uint64pow10" = some 1 := by kernel_rfl
theorem gTabType : (Tryd.prog.globals[1]?).map (·.type) = some 59 := by kernel_rfl
end Go.Proofs.YtddoefjobboniaaDoor
