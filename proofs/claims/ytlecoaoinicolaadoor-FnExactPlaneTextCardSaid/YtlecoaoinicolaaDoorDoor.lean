/- What all door statements of the seat share: the numbers of the listed tables. -/
import Derived.Test.YtlecoaoinicolaaDoorShell
import Derived.Test.YtlecoaoinicolaaDoorWTxt
import Derived.Test.YtlecoaoinicolaaDoorTie
import Derived.Test.YtlecoaoinicolaaDoorCards
import Derived.ProofKit
import Derived.LaidMore
import Derived.OpenShut
import Derived.Stop.Joined
import Derived.Stop.LaidErr
import Derived.Lib.LaidTab
import Derived.SevenTiedAt
namespace Go.Proofs.YtlecoaoinicolaaDoor
open Go.ChangeShapes Go.WideShapes Go.ChangeAt Go.RowKit
theorem gTab : Tryd.prog.globalNamed "internal/strconv.uint64pow10" = some 0 := by kernel_rfl
theorem gTabType : (Tryd.prog.globals[0]?).map (·.type) = some 52 := by kernel_rfl
end Go.Proofs.YtlecoaoinicolaaDoor
