/- What all door statements of the seat share: the numbers of the listed tables. -/
import Derived.Test.YtmhbkljnilonkaaDoorShell
import Derived.Test.YtmhbkljnilonkaaDoorWTxt
import Derived.Test.YtmhbkljnilonkaaDoorTie
import Derived.Test.YtmhbkljnilonkaaDoorCards
import Derived.ProofKit
import Derived.LaidMore
import Derived.OpenShut
import Derived.Stop.Joined
import Derived.Stop.LaidErr
import Derived.Lib.LaidTab
import Derived.SevenTiedAt
namespace Go.Proofs.YtmhbkljnilonkaaDoor
open Go.ChangeShapes Go.WideShapes Go.ChangeAt Go.RowKit
theorem gTab : Tryd.prog.globalNamed "internal/strconv.uint64pow10" = some 3 := by kernel_rfl
theorem gTabType : (Tryd.prog.globals[3]?).map (·.type) = some 94 := by kernel_rfl
end Go.Proofs.YtmhbkljnilonkaaDoor
