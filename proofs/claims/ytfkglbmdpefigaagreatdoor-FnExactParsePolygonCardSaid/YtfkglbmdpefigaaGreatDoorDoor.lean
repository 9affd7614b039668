/- What all door statements of the seat share: the numbers of the listed tables. -/
import Derived.Test.YtfkglbmdpefigaaGreatDoorShell
import Derived.Test.YtfkglbmdpefigaaGreatDoorWTxt
import Derived.Test.YtfkglbmdpefigaaGreatDoorTie
import Derived.Test.YtfkglbmdpefigaaGreatDoorCards
import Derived.ProofKit
import Derived.LaidMore
import Derived.OpenShut
import Derived.Stop.Joined
import Derived.Stop.LaidErr
import Derived.Lib.LaidTab
import Derived.SevenTiedAt
namespace Go.Proofs.YtfkglbmdpefigaaGreatDoor
open Go.ChangeShapes Go.WideShapes Go.ChangeAt Go.RowKit
theorem gTab : Tryz.prog.globalNamed "internal/strconv.uint64pow10" = some 3 := by kernel_rfl
theorem gTabType : (Tryz.prog.globals[3]?).map (·.type) = some 115 := by kernel_rfl
end Go.Proofs.YtfkglbmdpefigaaGreatDoor
