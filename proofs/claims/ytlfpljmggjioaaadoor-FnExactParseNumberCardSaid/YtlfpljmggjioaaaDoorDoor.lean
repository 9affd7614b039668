/- What all door statements of the seat share: the numbers of the listed tables. -/
import Derived.Test.YtlfpljmggjioaaaDoorShell
import Derived.Test.YtlfpljmggjioaaaDoorWTxt
import Derived.Test.YtlfpljmggjioaaaDoorTie
import Derived.Test.YtlfpljmggjioaaaDoorCards
import Derived.ProofKit
import Derived.LaidMore
import Derived.OpenShut
import Derived.Stop.Joined
import Derived.Stop.LaidErr
import Derived.Lib.LaidTab
import Derived.SevenTiedAt
namespace Go.Proofs.YtlfpljmggjioaaaDoor
open Go.ChangeShapes Go.WideShapes Go.ChangeAt Go.RowKit
theorem gTab : Tryd.prog.globalNamed "internal/strconv.uint64pow10" = some 2 := by kernel_rfl
theorem gTabType : (Tryd.prog.globals[2]?).map (·.type) = some 62 := by kernel_rfl
end Go.Proofs.YtlfpljmggjioaaaDoor
