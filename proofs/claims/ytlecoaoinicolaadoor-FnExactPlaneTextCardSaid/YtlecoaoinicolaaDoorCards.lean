/-
  DERIVED. GIVEN WITH THE SEED: THE CARDS: each row of YtlecoaoinicolaaDoorRows.lean that lists a variable, with what it lists TIED to the program's text (the seventh form; the later family's looks); each row that meets fmt, with fmt's text TOLD by the authors' own Lean function (tested against real Go, not proved from fmt's source: count such statements apart). THE CARD IS WHAT COUNTS. Prove the row's statement (the work); the ties are given (YtlecoaoinicolaaDoorTie.lean); close each card by the builder's one call (the guide's Derived/Test/ToyasCard.lean, 'card_holds'). Laid BY PROGRAM, IN A SANDBOX (cutbox-door.mjs). By AI agents, Wed Nov 11 2026. No macro, syntax, notation, axiom, sorry.
-/
import Derived.Test.YtlecoaoinicolaaDoorRows
import GoSem.ClaimSeven
namespace Go.Proofs.YtlecoaoinicolaaDoor
namespace Rows

/-- THE TIED CARD OF 'laws.FnExactPlaneText'. -/
def fnExactPlaneTextCard : Claim7 := { stood := { row := fnExactPlaneTextRow, standIns := [], harness := (true, "e261b0fb7153c394b23b832a420c3eeb230ac3faf84c7752b154df7fdb1bad06"), looks := false }, kinds := [], alts := [], laidByText := true, laidKinds := [.data, .data, .data], laidTests := true, laidLooks := .later }
def FnExactPlaneTextCardSaid : Prop := Claim7.holds Tryd.pinned (.plain (OpenSpec.ofChange fnExactPlaneTextSpec)) fnExactPlaneTextCard

/-- THE SECOND FORM's CARD OF 'laws.FnExactPlaneText'. -/
def fnExactPlaneTextUptoCard : Claim7 := { stood := { row := fnExactPlaneTextUptoRow, standIns := [], harness := (true, "e261b0fb7153c394b23b832a420c3eeb230ac3faf84c7752b154df7fdb1bad06"), looks := false }, kinds := [], alts := [], laidByText := true, laidKinds := [.data, .data, .data], laidTests := true, laidLooks := .later }
def FnExactPlaneTextUptoCardSaid : Prop := Claim7.holds Tryd.pinned (.plain (OpenSpec.upto fnExactPlaneTextSpec)) fnExactPlaneTextUptoCard
end Rows
end Go.Proofs.YtlecoaoinicolaaDoor
